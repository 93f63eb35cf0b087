/- LightRaised: the law's walk. Condition: the heights read as a list. -/
import Derived.Test.YtlljhimaopnbfaaLLawFs
import Derived.Test.YtlljhimaopnbfaaQDag
namespace Go.Proofs.Ytlljhimaopnbfaa
open Go.RowKit

theorem shadeK_atR {w : World} {A : Option Addr} {xs : List (Int × Int)} (h : shadeK.Row w A xs) {j : Nat} (hj : j < xs.length) : ∃ b o, A = some ⟨b, o, none⟩ ∧ b < w.heap.size ∧ w.cell? ⟨b, o + j * 2, none⟩ = some (.int .i64 xs[j].1) ∧ w.cell? ⟨b, o + j * 2 + 1, none⟩ = some (.int .i64 xs[j].2) := by
  obtain ⟨b, o, rfl, hb, hc⟩ := h j hj
  exact ⟨b, o, rfl, hb, hc 0 _ rfl, hc 1 _ rfl⟩
theorem tiltK_atR {w : World} {A : Option Addr} {xs : List (Int × Int)} (h : tiltK.Row w A xs) {j : Nat} (hj : j < xs.length) : ∃ b o, A = some ⟨b, o, none⟩ ∧ b < w.heap.size ∧ w.cell? ⟨b, o + j * 2, none⟩ = some (.int .i64 xs[j].1) ∧ w.cell? ⟨b, o + j * 2 + 1, none⟩ = some (.int .i64 xs[j].2) := by
  obtain ⟨b, o, rfl, hb, hc⟩ := h j hj
  exact ⟨b, o, rfl, hb, hc 0 _ rfl, hc 1 _ rfl⟩
theorem box_two (W : World) (B : Nat) (h : B ≤ W.heap.size) : (W.alloc (.cells #[.int .i64 0, .int .i64 0] 27)).cell? ⟨W.heap.size, 0, none⟩ = some (.int .i64 0) ∧ (W.alloc (.cells #[.int .i64 0, .int .i64 0] 27)).cell? ⟨W.heap.size, 1, none⟩ = some (.int .i64 0) ∧ (W.alloc (.cells #[.int .i64 0, .int .i64 0] 27)).frozen? ⟨W.heap.size, 0, none⟩ = false ∧ (W.alloc (.cells #[.int .i64 0, .int .i64 0] 27)).frozen? ⟨W.heap.size, 1, none⟩ = false ∧ B ≤ W.heap.size :=
  ⟨cell_new rfl, cell_new rfl, by go_simp, by go_simp, h⟩
theorem box_put {W : World} {b B : Nat} {x0 x1 : Value} (h : W.cell? ⟨b, 0, none⟩ = some x0 ∧ W.cell? ⟨b, 1, none⟩ = some x1 ∧ W.frozen? ⟨b, 0, none⟩ = false ∧ W.frozen? ⟨b, 1, none⟩ = false ∧ B ≤ b) (u0 u1 : Value) :
    ((W.setCell ⟨b, 0, none⟩ u0).setCell ⟨b, 1, none⟩ u1).cell? ⟨b, 0, none⟩ = some u0 ∧ ((W.setCell ⟨b, 0, none⟩ u0).setCell ⟨b, 1, none⟩ u1).cell? ⟨b, 1, none⟩ = some u1 ∧ ((W.setCell ⟨b, 0, none⟩ u0).setCell ⟨b, 1, none⟩ u1).frozen? ⟨b, 0, none⟩ = false ∧ ((W.setCell ⟨b, 0, none⟩ u0).setCell ⟨b, 1, none⟩ u1).frozen? ⟨b, 1, none⟩ = false ∧ B ≤ b := by
  obtain ⟨h0, h1, f0, f1, hb⟩ := h
  obtain ⟨k0, k1⟩ := set2 h0 h1 u0 u1
  exact ⟨k0, k1, by rw [World.frozen?_setCell, World.frozen?_setCell]; exact f0, by rw [World.frozen?_setCell, World.frozen?_setCell]; exact f1, hb⟩
theorem ext_put2 {w W : World} {b : Nat} (x : Ext w W) (h : w.heap.size ≤ b) (u0 u1 : Value) : Ext w ((W.setCell ⟨b, 0, none⟩ u0).setCell ⟨b, 1, none⟩ u1) := (x.setCell (p := ⟨b, 0, none⟩) h u0).setCell (p := ⟨b, 1, none⟩) h u1
theorem below_put2 {B b : Nat} {W : World} {u0 u1 : Value} (h : B ≤ b) : Below B W ((W.setCell ⟨b, 0, none⟩ u0).setCell ⟨b, 1, none⟩ u1) := ((Below.refl _ _).setCell (p := ⟨b, 0, none⟩) h u0).setCell (p := ⟨b, 1, none⟩) h u1
/-- The heights while the first i are raised. -/
def raisedL (hs : List Int) (by_ : Int) (N i : Nat) : List Int := (List.range N).map fun j => if j < i then hA hs j + by_ else hA hs j
theorem raisedL_len {hs : List Int} {by_ : Int} {N i : Nat} : (raisedL hs by_ N i).length = N := by simp [raisedL]
theorem raisedL_at {hs : List Int} {by_ : Int} {N i : Nat} (h : i < (raisedL hs by_ N i).length) : (raisedL hs by_ N i)[i] = hA hs i := by simp [raisedL]
theorem raised_zero (hs : List Int) {by_ : Int} (N : Nat) (h : hs.length = N) : raisedL hs by_ N 0 = hs := by
  apply List.ext_getElem
  · rw [raisedL_len, h]
  · intro j h1 h2
    simp [raisedL, hA, h2]
theorem raisedL_set {hs : List Int} {by_ : Int} {N i : Nat} : (raisedL hs by_ N i).set i (hA hs i + by_) = raisedL hs by_ N (i + 1) := by
  apply List.ext_getElem
  · simp [raisedL]
  · intro j h1 h2
    rw [List.getElem_set]
    simp only [raisedL, List.getElem_map, List.getElem_range]
    split
    · rename_i h
      subst h
      rw [if_pos (by omega)]
    · split
      · rw [if_pos (by omega)]
      · rw [if_neg (by omega)]
theorem raisedL_end {hs : List Int} {by_ : Int} {N i : Nat} (h : i < N) : hA (raisedL hs by_ N N) i = hA hs i + by_ := by
  unfold hA raisedL
  simp [h, hA]
theorem box_name {W : World} {b : Nat} {v : Value} (_ : W.cell? ⟨b, 0, none⟩ = some v) : ∃ c, c = b := ⟨b, rfl⟩
theorem tiltsL_at {n m : Nat} {hs : List Int} {j : Nat} (h : j < (tiltsL n m hs).length) : (tiltsL n m hs)[j] = (tiltX n hs (cx n j) (cy n j), tiltY n hs (cx n j) (cy n j)) := by simp [tiltsL]
theorem seenL_at {n m : Nat} {P : Int} {hs : List Int} {lx ly lz : Int} {j : Nat} (h : j < (seenL n m P hs lx ly lz).length) : (seenL n m P hs lx ly lz)[j] = seenC n m P hs lx ly lz (cx n j) (cy n j) := by simp [seenL]
theorem raised_picture {n m N : Nat} {W H P by_ lx ly lz : Int} {hs : List Int} (hn : W = (n : Int) + 1) (hm : H = (m : Int) + 1) (hb : surfB W H P hs = true) (hN : hs.length = N) (hn1 : 1 ≤ n) (hb' : surfB W H P (raisedL hs by_ N N) = true) (hl : lightB lx ly lz = true) :
    pictureL W H P (raisedL hs by_ N N) lx ly lz = seenL n m P hs lx ly lz := by
  subst hn hm
  have hlen : (hs.length : Int) = ((n : Int) + 1) * ((m : Int) + 1) := (surfB_iff.1 hb).2.2.2.1
  have hNN : N = (n + 1) * (m + 1) := by rw [← hN]; exact_mod_cast hlen
  unfold pictureL
  rw [hb', hl, nOf_add, nOf_add]
  show seenL n m P _ lx ly lz = _
  apply List.ext_getElem
  · simp [seenL]
  · intro j h1 h2
    have hj : j < m * n := by simpa [seenL] using h1
    rw [seenL_at, seenL_at]
    exact seen_raised (by_ := by_) (fun i hi => raisedL_end (by rw [hNN]; exact hi)) (cx_lt hn1) (cy_lt hj)
theorem bright_good {n : Nat} {W H P : Int} {hs : List Int} {lx ly lz : Int} {x y : Nat} (hb : surfB W H P hs = true) (hl : lightB lx ly lz = true) : brightV (tiltX n hs x y) (tiltY n hs x y) P lx ly lz = .tuple #[shadeV (shadeN (tiltX n hs x y) (tiltY n hs x y) P lx ly lz) (shadeD (tiltX n hs x y) (tiltY n hs x y) P lx ly lz), .int .i64 0] := by
  have hall := (surfB_iff.1 hb).2.2.2.2
  have hP : inB 1 100 P = true := inB_iff.2 (surfB_iff.1 hb).2.2.1
  have h0 : -100 ≤ cor0 n hs x y ∧ cor0 n hs x y ≤ 100 := hA_bd hall _
  have h1 : -100 ≤ cor1 n hs x y ∧ cor1 n hs x y ≤ 100 := hA_bd hall _
  have h2 : -100 ≤ cor2 n hs x y ∧ cor2 n hs x y ≤ 100 := hA_bd hall _
  have h3 : -100 ≤ cor3 n hs x y ∧ cor3 n hs x y ≤ 100 := hA_bd hall _
  have ht : tiltB (tiltX n hs x y) (tiltY n hs x y) = true := tiltB_iff.2 ⟨⟨by unfold tiltX; omega, by unfold tiltX; omega⟩, by unfold tiltY; omega, by unfold tiltY; omega⟩
  unfold brightV brightE brightN brightD
  rw [ht, hP, hl]
  rfl

set_option maxRecDepth 100000 in
set_option maxHeartbeats 8000000 in
theorem lawRaised_any (W H P : Int) (hv : Value) (hs : List Int) (lx ly lz by_ : Int) (w : World) (hI : intK.Is w hv hs) :
    Calls Try.prog 13 #[surfV W H P hv, lightV lx ly lz, .int .i64 by_] w fun e w' => e = .returned (.bool true) ∧ Ext w w' := by
  have HAL := Lib.hid fun W : World => light_alive W
  have HII := Lib.hid fun (W : World) (x : Ext w W) => hI.ext x
  have HGR := Lib.hid fun (W1 : World) (x : Ext w W1) => great_any W H P hv hs W1 (hI.ext x)
  have HPI := Lib.hid fun (W1 : World) (x : Ext w W1) => Picture_any W H P hv hs lx ly lz W1 (hI.ext x)
  have HSH := Lib.hid fun (W1 : World) (x : Ext w W1) => shadows_any W H P hv hs lx ly lz W1 (hI.ext x)
  have HFA := Lib.hid fun (W1 : World) (x : Ext w W1) => facets_any W H P hv hs W1 (hI.ext x)
  have HTW := Lib.hid fun (W1 : World) (x : Ext w W1) (h : hs.length ≤ 700) => twin_any W H P hv hs W1 (hI.ext x) h
  obtain ⟨A, L, c, rfl, hL, _⟩ := hI.open_
  have X0 := Lib.hid (show Ext w ((w.alloc (.cells #[.int .i64 W, .int .i64 H, .int .i64 P, .slice A L c] 37)).alloc (.cells #[.int .i64 lx, .int .i64 ly, .int .i64 lz] 25)) from by (repeat' (first | with_reducible exact Ext.refl _ | with_reducible apply Ext.alloc | with_reducible apply Ext.drew | with_reducible apply Ext.drewN | with_reducible refine Ext.setCell ?_ ?_ _ | with_reducible apply Ext.step | with_reducible assumption | with_reducible exact Nat.le_refl _ | (simp; done) | (simp; omega))))
  clear hI hL
  go_enter Try.func13, Try.ntmps13
  go_wp2_with fail
  refine (HAL.out _).mono ?_
  rintro e w1 ⟨rfl, x1⟩
  have HX1 := Lib.hid (X0.out.trans x1)
  have a0 : w1.cell? ⟨w.heap.size, 0, none⟩ = some (.int .i64 W) := x1.cell_some (by go_cell)
  have a1 : w1.cell? ⟨w.heap.size, 1, none⟩ = some (.int .i64 H) := x1.cell_some (by go_cell)
  have a2 : w1.cell? ⟨w.heap.size, 2, none⟩ = some (.int .i64 P) := x1.cell_some (by go_cell)
  have a3 : w1.cell? ⟨w.heap.size, 3, none⟩ = some (.slice A L c) := x1.cell_some (by go_cell)
  have b0 : w1.cell? ⟨w.heap.size + 1, 0, none⟩ = some (.int .i64 lx) := x1.cell_some (by go_cell)
  have b1 : w1.cell? ⟨w.heap.size + 1, 1, none⟩ = some (.int .i64 ly) := x1.cell_some (by go_cell)
  have b2 : w1.cell? ⟨w.heap.size + 1, 2, none⟩ = some (.int .i64 lz) := x1.cell_some (by go_cell)
  have la := cell_lt a0
  have lb := cell_lt b0
  clear x1
  go_wp2_with fail
  refine (HGR.out _ HX1.out).mono ?_
  rintro e w2 ⟨rfl, x2⟩
  have HX2 := Lib.hid (HX1.out.trans x2)
  replace a0 := x2.cell_some a0
  replace a1 := x2.cell_some a1
  replace a2 := x2.cell_some a2
  replace a3 := x2.cell_some a3
  replace b0 := x2.cell_some b0
  replace b1 := x2.cell_some b1
  replace b2 := x2.cell_some b2
  replace la := cell_lt a0
  replace lb := cell_lt b0
  clear x2
  by_cases hg : 700 < hs.length
  · have g1 : decide (700 < hs.length) = true := by simpa using hg
    clear hg
    go_wp2_with fail
    go_ret
    exact ⟨rfl, HX2.out⟩
  have g1 : decide (700 < hs.length) = false := by simpa using hg
  by_cases hb1 : by_ < -200
  · have g2 : decide (by_ < -200) = true := by simpa using hb1
    clear hg hb1
    go_wp2_with fail
    go_ret
    exact ⟨rfl, HX2.out⟩
  have g2 : decide (by_ < -200) = false := by simpa using hb1
  by_cases hb2 : 200 < by_
  · have g3 : decide (200 < by_) = true := by simpa using hb2
    clear hg hb1 hb2
    go_wp2_with fail
    go_ret
    exact ⟨rfl, HX2.out⟩
  have g3 : decide (200 < by_) = false := by simpa using hb2
  have HG := Lib.hid hg
  have HBY := Lib.hid (And.intro hb1 hb2)
  clear hg hb1 hb2
  by_cases he : shadE W H P hs lx ly lz = 0
  case neg =>
    have f1 : (shadE W H P hs lx ly lz != 0) = true := by simpa using he
    generalize shadE W H P hs lx ly lz = er at *
    generalize surfE W H P hs = fe at *
    clear he
    go_wp2_with fail
    refine (HPI.out _ HX2.out).mono ?_
    rintro e w3 ⟨v3, rfl, o3, x3⟩
    have HX3 := Lib.hid (HX2.out.trans x3)
    replace a0 := x3.cell_some a0
    replace a1 := x3.cell_some a1
    replace a2 := x3.cell_some a2
    replace a3 := x3.cell_some a3
    replace b0 := x3.cell_some b0
    replace b1 := x3.cell_some b1
    replace b2 := x3.cell_some b2
    replace la := cell_lt a0
    replace lb := cell_lt b0
    obtain ⟨A3, k3, c3, rfl⟩ := o3.shape
    clear x3 o3
    go_wp2_with fail
    refine (HSH.out _ HX3.out).mono ?_
    rintro e w4 ⟨v4, rfl, o4, x4⟩
    have HX4 := Lib.hid (HX3.out.trans x4)
    replace a0 := x4.cell_some a0
    replace a1 := x4.cell_some a1
    replace a2 := x4.cell_some a2
    replace a3 := x4.cell_some a3
    replace la := cell_lt a0
    obtain ⟨A4, k4, c4, rfl⟩ := o4.shape
    clear x4 o4 b0 b1 b2 lb
    go_wp2_with fail
    refine (HFA.out _ HX4.out).mono ?_
    rintro e w5 ⟨v5, rfl, o5, x5⟩
    have HX5 := Lib.hid (HX4.out.trans x5)
    obtain ⟨A5, k5, c5, rfl⟩ := o5.shape
    clear x5 o5 a0 a1 a2 a3 la
    go_wp2_with fail
    go_ret
    exact ⟨rfl, HX5.out⟩
  obtain ⟨hsb, hlb⟩ := shadE_ok he
  have hfe : surfE W H P hs = 0 := by unfold surfE; rw [hsb]; rfl
  obtain ⟨n, m, hn, hm, hn1, hn2, hm1, hm2⟩ := surf_nm hsb
  have hmn := Nat.mul_le_mul hm2 hn2
  obtain ⟨M, hM⟩ : ∃ M, M = m * n := ⟨_, rfl⟩
  have hM5 : M ≤ 529 := by rw [hM]; exact hmn
  have hw1 : IntKind.i64.wrap (W - 1) = (n : Int) := by rw [hn]; exact (IntWalk.i64_in _ (by omega)).trans (by omega)
  have hw2 : IntKind.i64.wrap (H - 1) = (m : Int) := by rw [hm]; exact (IntWalk.i64_in _ (by omega)).trans (by omega)
  have hw3 : IntKind.i64.wrap ((n : Int) * (m : Int)) = (M : Int) := by
    rw [show (n : Int) * (m : Int) = (M : Int) by rw [hM, Int.mul_comm]; simp]
    exact IntWalk.i64_in _ (by omega)
  have hPL : pictureL W H P hs lx ly lz = seenL n m P hs lx ly lz := by
    rw [hn, hm] at hsb ⊢
    unfold pictureL
    rw [hsb, hlb, nOf_add, nOf_add]
    rfl
  have hSL : shadowsL W H P hs lx ly lz = darksL n m P hs lx ly lz := by
    rw [hn, hm] at hsb ⊢
    exact shadowsL_ok hsb hlb
  have hFL : facetsL W H P hs = tiltsL n m hs := by
    rw [hn, hm] at hsb ⊢
    unfold facetsL
    rw [hsb, nOf_add, nOf_add]
    rfl
  have HNM := Lib.hid (And.intro hn (And.intro hm (And.intro hM (And.intro hsb (And.intro hlb (show 1 ≤ n ∧ n ≤ 23 ∧ 1 ≤ m ∧ m ≤ 23 by omega))))))
  rw [he, hPL] at HPI
  rw [he, hSL] at HSH
  rw [hfe, hFL] at HFA
  have z1 : ((M : Int) != (M : Int)) = false := by simp
  have HL1 := Lib.hid (show (seenL n m P hs lx ly lz).length = M from by rw [hM]; simp [seenL])
  have HL2 := Lib.hid (show (darksL n m P hs lx ly lz).length = M from by rw [hM]; exact darksL_len ..)
  have HL3 := Lib.hid (show (tiltsL n m hs).length = M from by rw [hM]; simp [tiltsL])
  clear he hfe hsb hlb hn hm hn1 hn2 hm1 hm2 hmn hM hPL hSL hFL
  go_wp2_with fail
  refine (HPI.out _ HX2.out).mono ?_
  rintro e w3 ⟨v3, rfl, o3, x3⟩
  have HX3 := Lib.hid (HX2.out.trans x3)
  replace a0 := x3.cell_some a0
  replace a1 := x3.cell_some a1
  replace a2 := x3.cell_some a2
  replace a3 := x3.cell_some a3
  replace b0 := x3.cell_some b0
  replace b1 := x3.cell_some b1
  replace b2 := x3.cell_some b2
  replace la := cell_lt a0
  replace lb := cell_lt b0
  obtain ⟨A3, k3, c3, rfl, hk3, -⟩ := o3.is.open_
  rw [HL1.out] at hk3
  subst hk3
  have HR3 := Lib.hid o3.is
  clear x3 o3
  go_wp2_with fail
  refine (HSH.out _ HX3.out).mono ?_
  rintro e w4 ⟨v4, rfl, o4, x4⟩
  have HX4 := Lib.hid (HX3.out.trans x4)
  have HR4 := Lib.hid (HR3.out.ext x4)
  replace a0 := x4.cell_some a0
  replace a1 := x4.cell_some a1
  replace a2 := x4.cell_some a2
  replace a3 := x4.cell_some a3
  replace b0 := x4.cell_some b0
  replace b1 := x4.cell_some b1
  replace b2 := x4.cell_some b2
  replace la := cell_lt a0
  replace lb := cell_lt b0
  obtain ⟨A4, k4, c4, rfl, hk4, -⟩ := o4.is.open_
  rw [HL2.out] at hk4
  subst hk4
  have HT4 := Lib.hid o4.is
  clear x4 o4 HR3
  go_wp2_with fail
  refine (HFA.out _ HX4.out).mono ?_
  rintro e w5 ⟨v5, rfl, o5, x5⟩
  have HX5 := Lib.hid (HX4.out.trans x5)
  have HR5 := Lib.hid (HR4.out.ext x5)
  have HT5 := Lib.hid (HT4.out.ext x5)
  replace a0 := x5.cell_some a0
  replace a1 := x5.cell_some a1
  replace a2 := x5.cell_some a2
  replace a3 := x5.cell_some a3
  replace b0 := x5.cell_some b0
  replace b1 := x5.cell_some b1
  replace b2 := x5.cell_some b2
  replace la := cell_lt a0
  replace lb := cell_lt b0
  obtain ⟨A5, k5, c5, rfl, hk5, -⟩ := o5.is.open_
  rw [HL3.out] at hk5
  subst hk5
  have HF5 := Lib.hid o5.is
  clear x5 o5 HR4 HT4
  go_wp2_with fail
  have HA := Lib.hid (And.intro a0 (And.intro a1 (And.intro a2 (And.intro a3 (And.intro b0 (And.intro b1 b2))))))
  clear a0 a1 a2 a3 b0 b1 b2 la lb
  obtain ⟨_, _, he3, _, _, hr3⟩ := HR5.out
  simp only [Value.slice.injEq] at he3
  obtain ⟨rfl, -, -⟩ := he3
  obtain ⟨_, _, he4, _, _, hr4⟩ := HT5.out
  simp only [Value.slice.injEq] at he4
  obtain ⟨rfl, -, -⟩ := he4
  obtain ⟨_, _, he5, _, _, hr5⟩ := HF5.out
  simp only [Value.slice.injEq] at he5
  obtain ⟨rfl, -, -⟩ := he5
  have HW3 := Lib.hid hr3
  have HW4 := Lib.hid hr4
  have HW5 := Lib.hid hr5
  clear hr3 hr4 hr5
  go_loopw [96] (fun iv wr => ∃ j : Nat, j ≤ M ∧ iv = .int .i64 (j : Int) ∧ Ext w5 wr) (fun iv _ => M - (intOf iv).toNat)
  case atStart => exact ⟨0, by omega, rfl, Ext.refl _⟩
  case round =>
    obtain ⟨j, hj, rfl, hx⟩ := hrel
    have HX := Lib.hid hx
    by_cases hlt : j < M
    · have hjj : (j : Int) < (M : Int) := by omega
      have a2 := hx.cell_some HA.out.2.2.1
      have b0 := hx.cell_some HA.out.2.2.2.2.1
      have b1 := hx.cell_some HA.out.2.2.2.2.2.1
      have b2 := hx.cell_some HA.out.2.2.2.2.2.2
      have la := cell_lt a2
      have lb := cell_lt b0
      obtain ⟨bt, ot, rfl, -, q0, q1⟩ := tiltK_atR HW5.out (j := j) (by rw [HL3.out]; exact hlt)
      obtain ⟨bd, od, rfl, -, d0⟩ := bools_at HW4.out j (by rw [HL2.out]; exact hlt)
      obtain ⟨bs, os, rfl, -, s0, s1⟩ := shadeK_atR HW3.out (j := j) (by rw [HL1.out]; exact hlt)
      rw [tiltsL_at] at q0 q1
      rw [darksL_at] at d0
      rw [seenL_at] at s0 s1
      replace q0 := hx.cell_some q0
      replace q1 := hx.cell_some q1
      replace d0 := hx.cell_some d0
      replace s0 := hx.cell_some s0
      replace s1 := hx.cell_some s1
      have HBR := Lib.hid fun W : World => Bright_any (tiltX n hs (cx n j) (cy n j)) (tiltY n hs (cx n j) (cy n j)) P lx ly lz W
      rw [bright_good HNM.out.2.2.2.1 HNM.out.2.2.2.2.1] at HBR
      obtain ⟨bj, hd⟩ : ∃ bj, darkB n m P hs lx ly lz (cx n j) (cy n j) = bj := ⟨_, rfl⟩
      have hse : seenC n m P hs lx ly lz (cx n j) (cy n j) = if bj then (0, 1) else (shadeN (tiltX n hs (cx n j) (cy n j)) (tiltY n hs (cx n j) (cy n j)) P lx ly lz, shadeD (tiltX n hs (cx n j) (cy n j)) (tiltY n hs (cx n j) (cy n j)) P lx ly lz) := by
        unfold seenC
        rw [hd]
      rw [hse] at s0 s1
      rw [hd] at d0
      clear hse hd
      generalize shadeN (tiltX n hs (cx n j) (cy n j)) (tiltY n hs (cx n j) (cy n j)) P lx ly lz = sn at *
      generalize shadeD (tiltX n hs (cx n j) (cy n j)) (tiltY n hs (cx n j) (cy n j)) P lx ly lz = sd at *
      generalize tiltX n hs (cx n j) (cy n j) = tx at *
      generalize tiltY n hs (cx n j) (cy n j) = ty at *
      have lq := cell_lt q0
      have ld := cell_lt d0
      have lss := cell_lt s0
      clear hx
      go_wp2_with fail
      refine (wpIn_wide (n := 3)).1 ?_
      refine wpIn_region_tree (B := wr.heap.size) 13 [0, 1, 2, 3, 4, 5, 6] (Nat.le_refl _) (by kernel_rfl) (by decide +kernel) ?_
      repeat (refine wpQ_step (by rfl) (fun _ _ _ => trivial) (fun K hK => ?_); go_simp; refine hK _ ?_; clear hK K)
      refine wpQ_nil ?_
      have HSW := Lib.hid (And.intro s0 s1)
      have HXT := Lib.hid (Ext.refl wr)
      change wpAnyT _ _ _ _ _ _ _ _ _ (5 + 1) _ _ _
      all_goals (
        first
          | refine wpAnyT_step [7, 11] (by decide +kernel) (by decide) (by decide) ?_
          | refine wpAnyT_step [8, 11] (by decide +kernel) (by decide) (by decide) ?_
          | refine wpAnyT_step [9, 10, 11] (by decide +kernel) (by decide) (by decide) ?_
          | refine wpAnyT_step [10, 11] (by decide +kernel) (by decide) (by decide) ?_
          | refine wpAnyT_step [9, 11] (by decide +kernel) (by decide) (by decide) ?_
          | refine wpAnyT_step [10, 12] (by decide +kernel) (by decide) (by decide) ?_
          | refine wpAnyT_step [9, 10] (by decide +kernel) (by decide) (by decide) ?_
          | refine wpAnyT_step [7] (by decide +kernel) (by decide) (by decide) ?_
          | refine wpAnyT_step [8] (by decide +kernel) (by decide) (by decide) ?_
          | refine wpAnyT_step [9] (by decide +kernel) (by decide) (by decide) ?_
          | refine wpAnyT_step [10] (by decide +kernel) (by decide) (by decide) ?_
          | refine wpAnyT_step [11] (by decide +kernel) (by decide) (by decide) ?_
          | refine wpAnyT_step [12] (by decide +kernel) (by decide) (by decide) ?_
        intro i hi
        simp only [List.mem_cons, List.not_mem_nil, or_false] at hi
        first | (rcases hi with rfl | rfl | rfl) | (rcases hi with rfl | rfl) | (subst hi)
        all_goals (
          refine ⟨_, by rfl, midT_step (by rfl) (fun _ _ _ => trivial) (fun δ K' hK' => ?_)⟩
          have E1 := Lib.hid (show Ext _ δ.wd from ⟨δ, rfl⟩)
          have HX1 := Lib.hid (HXT.out.trans E1.out)
          (try have HC1 := Lib.hid (And.intro (E1.out.cell_some HC.out.1) (And.intro (E1.out.cell_some HC.out.2.1) (And.intro (E1.out.frozen HC.out.1 HC.out.2.2.1) (And.intro (E1.out.frozen HC.out.2.1 HC.out.2.2.2.1) HC.out.2.2.2.2)))))
          (try have hc0 := HC1.out.1)
          (try have hc1 := HC1.out.2.1)
          (try have hf0 := HC1.out.2.2.1)
          (try have hf1 := HC1.out.2.2.2.1)
          (try have hl0 := cell_lt hc0)
          go_simp
          first
            | (refine (callsIn_wide.2 (HBR.out δ.wd)).mono ?_
               rintro e w3 ⟨rfl, x3⟩
               refine ⟨_, rfl, x3.belB HX1.out.bel.size, hK' _ _ ?_⟩
               (try have HC := Lib.hid (And.intro (x3.cell_some HC1.out.1) (And.intro (x3.cell_some HC1.out.2.1) (And.intro (x3.frozen HC1.out.1 HC1.out.2.2.1) (And.intro (x3.frozen HC1.out.2.1 HC1.out.2.2.2.1) HC1.out.2.2.2.2)))))
               have HXT := Lib.hid (HX1.out.trans x3)
               clear x3 hK')
            | (refine ⟨Below.refl _ _, hK' _ _ ?_⟩
               (try have HC := HC1)
               have HXT := HX1
               clear hK')
            | (refine ⟨((Below.refl _ _).alloc HX1.out.bel.size _), hK' _ _ ?_⟩
               have HC := Lib.hid (box_two δ.wd wr.heap.size HX1.out.bel.size)
               have HXT := Lib.hid (HX1.out.alloc (.cells #[.int .i64 0, .int .i64 0] 27))
               clear hK')
            | (have hle := HC1.out.2.2.2.2
               refine ⟨below_put2 hle, hK' _ _ ?_⟩
               have HC := Lib.hid (box_put HC1.out (.int .i64 sn) (.int .i64 sd))
               have HXT := Lib.hid (ext_put2 HX1.out hle (.int .i64 sn) (.int .i64 sd))
               clear hK' hle)
          (try clear hc0)
          (try clear hc1)
          (try clear hf0)
          (try clear hf1)
          (try clear hl0)))
      all_goals (
        first
          | refine wpAnyT_step [7, 11] (by decide +kernel) (by decide) (by decide) ?_
          | refine wpAnyT_step [8, 11] (by decide +kernel) (by decide) (by decide) ?_
          | refine wpAnyT_step [9, 10, 11] (by decide +kernel) (by decide) (by decide) ?_
          | refine wpAnyT_step [10, 11] (by decide +kernel) (by decide) (by decide) ?_
          | refine wpAnyT_step [9, 11] (by decide +kernel) (by decide) (by decide) ?_
          | refine wpAnyT_step [10, 12] (by decide +kernel) (by decide) (by decide) ?_
          | refine wpAnyT_step [9, 10] (by decide +kernel) (by decide) (by decide) ?_
          | refine wpAnyT_step [7] (by decide +kernel) (by decide) (by decide) ?_
          | refine wpAnyT_step [8] (by decide +kernel) (by decide) (by decide) ?_
          | refine wpAnyT_step [9] (by decide +kernel) (by decide) (by decide) ?_
          | refine wpAnyT_step [10] (by decide +kernel) (by decide) (by decide) ?_
          | refine wpAnyT_step [11] (by decide +kernel) (by decide) (by decide) ?_
          | refine wpAnyT_step [12] (by decide +kernel) (by decide) (by decide) ?_
        intro i hi
        simp only [List.mem_cons, List.not_mem_nil, or_false] at hi
        first | (rcases hi with rfl | rfl | rfl) | (rcases hi with rfl | rfl) | (subst hi)
        all_goals (
          refine ⟨_, by rfl, midT_step (by rfl) (fun _ _ _ => trivial) (fun δ K' hK' => ?_)⟩
          have E1 := Lib.hid (show Ext _ δ.wd from ⟨δ, rfl⟩)
          have HX1 := Lib.hid (HXT.out.trans E1.out)
          (try have HC1 := Lib.hid (And.intro (E1.out.cell_some HC.out.1) (And.intro (E1.out.cell_some HC.out.2.1) (And.intro (E1.out.frozen HC.out.1 HC.out.2.2.1) (And.intro (E1.out.frozen HC.out.2.1 HC.out.2.2.2.1) HC.out.2.2.2.2)))))
          (try have hc0 := HC1.out.1)
          (try have hc1 := HC1.out.2.1)
          (try have hf0 := HC1.out.2.2.1)
          (try have hf1 := HC1.out.2.2.2.1)
          (try have hl0 := cell_lt hc0)
          go_simp
          first
            | (refine (callsIn_wide.2 (HBR.out δ.wd)).mono ?_
               rintro e w3 ⟨rfl, x3⟩
               refine ⟨_, rfl, x3.belB HX1.out.bel.size, hK' _ _ ?_⟩
               (try have HC := Lib.hid (And.intro (x3.cell_some HC1.out.1) (And.intro (x3.cell_some HC1.out.2.1) (And.intro (x3.frozen HC1.out.1 HC1.out.2.2.1) (And.intro (x3.frozen HC1.out.2.1 HC1.out.2.2.2.1) HC1.out.2.2.2.2)))))
               have HXT := Lib.hid (HX1.out.trans x3)
               clear x3 hK')
            | (refine ⟨Below.refl _ _, hK' _ _ ?_⟩
               (try have HC := HC1)
               have HXT := HX1
               clear hK')
            | (refine ⟨((Below.refl _ _).alloc HX1.out.bel.size _), hK' _ _ ?_⟩
               have HC := Lib.hid (box_two δ.wd wr.heap.size HX1.out.bel.size)
               have HXT := Lib.hid (HX1.out.alloc (.cells #[.int .i64 0, .int .i64 0] 27))
               clear hK')
            | (have hle := HC1.out.2.2.2.2
               refine ⟨below_put2 hle, hK' _ _ ?_⟩
               have HC := Lib.hid (box_put HC1.out (.int .i64 sn) (.int .i64 sd))
               have HXT := Lib.hid (ext_put2 HX1.out hle (.int .i64 sn) (.int .i64 sd))
               clear hK' hle)
          (try clear hc0)
          (try clear hc1)
          (try clear hf0)
          (try clear hf1)
          (try clear hl0)))
      all_goals (
        first
          | refine wpAnyT_step [7, 11] (by decide +kernel) (by decide) (by decide) ?_
          | refine wpAnyT_step [8, 11] (by decide +kernel) (by decide) (by decide) ?_
          | refine wpAnyT_step [9, 10, 11] (by decide +kernel) (by decide) (by decide) ?_
          | refine wpAnyT_step [10, 11] (by decide +kernel) (by decide) (by decide) ?_
          | refine wpAnyT_step [9, 11] (by decide +kernel) (by decide) (by decide) ?_
          | refine wpAnyT_step [10, 12] (by decide +kernel) (by decide) (by decide) ?_
          | refine wpAnyT_step [9, 10] (by decide +kernel) (by decide) (by decide) ?_
          | refine wpAnyT_step [7] (by decide +kernel) (by decide) (by decide) ?_
          | refine wpAnyT_step [8] (by decide +kernel) (by decide) (by decide) ?_
          | refine wpAnyT_step [9] (by decide +kernel) (by decide) (by decide) ?_
          | refine wpAnyT_step [10] (by decide +kernel) (by decide) (by decide) ?_
          | refine wpAnyT_step [11] (by decide +kernel) (by decide) (by decide) ?_
          | refine wpAnyT_step [12] (by decide +kernel) (by decide) (by decide) ?_
        intro i hi
        simp only [List.mem_cons, List.not_mem_nil, or_false] at hi
        first | (rcases hi with rfl | rfl | rfl) | (rcases hi with rfl | rfl) | (subst hi)
        all_goals (
          refine ⟨_, by rfl, midT_step (by rfl) (fun _ _ _ => trivial) (fun δ K' hK' => ?_)⟩
          have E1 := Lib.hid (show Ext _ δ.wd from ⟨δ, rfl⟩)
          have HX1 := Lib.hid (HXT.out.trans E1.out)
          (try have HC1 := Lib.hid (And.intro (E1.out.cell_some HC.out.1) (And.intro (E1.out.cell_some HC.out.2.1) (And.intro (E1.out.frozen HC.out.1 HC.out.2.2.1) (And.intro (E1.out.frozen HC.out.2.1 HC.out.2.2.2.1) HC.out.2.2.2.2)))))
          (try have hc0 := HC1.out.1)
          (try have hc1 := HC1.out.2.1)
          (try have hf0 := HC1.out.2.2.1)
          (try have hf1 := HC1.out.2.2.2.1)
          (try have hl0 := cell_lt hc0)
          go_simp
          first
            | (refine (callsIn_wide.2 (HBR.out δ.wd)).mono ?_
               rintro e w3 ⟨rfl, x3⟩
               refine ⟨_, rfl, x3.belB HX1.out.bel.size, hK' _ _ ?_⟩
               (try have HC := Lib.hid (And.intro (x3.cell_some HC1.out.1) (And.intro (x3.cell_some HC1.out.2.1) (And.intro (x3.frozen HC1.out.1 HC1.out.2.2.1) (And.intro (x3.frozen HC1.out.2.1 HC1.out.2.2.2.1) HC1.out.2.2.2.2)))))
               have HXT := Lib.hid (HX1.out.trans x3)
               clear x3 hK')
            | (refine ⟨Below.refl _ _, hK' _ _ ?_⟩
               (try have HC := HC1)
               have HXT := HX1
               clear hK')
            | (refine ⟨((Below.refl _ _).alloc HX1.out.bel.size _), hK' _ _ ?_⟩
               have HC := Lib.hid (box_two δ.wd wr.heap.size HX1.out.bel.size)
               have HXT := Lib.hid (HX1.out.alloc (.cells #[.int .i64 0, .int .i64 0] 27))
               clear hK')
            | (have hle := HC1.out.2.2.2.2
               refine ⟨below_put2 hle, hK' _ _ ?_⟩
               have HC := Lib.hid (box_put HC1.out (.int .i64 sn) (.int .i64 sd))
               have HXT := Lib.hid (ext_put2 HX1.out hle (.int .i64 sn) (.int .i64 sd))
               clear hK' hle)
          (try clear hc0)
          (try clear hc1)
          (try clear hf0)
          (try clear hf1)
          (try clear hl0)))
      all_goals (
        first
          | refine wpAnyT_step [7, 11] (by decide +kernel) (by decide) (by decide) ?_
          | refine wpAnyT_step [8, 11] (by decide +kernel) (by decide) (by decide) ?_
          | refine wpAnyT_step [9, 10, 11] (by decide +kernel) (by decide) (by decide) ?_
          | refine wpAnyT_step [10, 11] (by decide +kernel) (by decide) (by decide) ?_
          | refine wpAnyT_step [9, 11] (by decide +kernel) (by decide) (by decide) ?_
          | refine wpAnyT_step [10, 12] (by decide +kernel) (by decide) (by decide) ?_
          | refine wpAnyT_step [9, 10] (by decide +kernel) (by decide) (by decide) ?_
          | refine wpAnyT_step [7] (by decide +kernel) (by decide) (by decide) ?_
          | refine wpAnyT_step [8] (by decide +kernel) (by decide) (by decide) ?_
          | refine wpAnyT_step [9] (by decide +kernel) (by decide) (by decide) ?_
          | refine wpAnyT_step [10] (by decide +kernel) (by decide) (by decide) ?_
          | refine wpAnyT_step [11] (by decide +kernel) (by decide) (by decide) ?_
          | refine wpAnyT_step [12] (by decide +kernel) (by decide) (by decide) ?_
        intro i hi
        simp only [List.mem_cons, List.not_mem_nil, or_false] at hi
        first | (rcases hi with rfl | rfl | rfl) | (rcases hi with rfl | rfl) | (subst hi)
        all_goals (
          refine ⟨_, by rfl, midT_step (by rfl) (fun _ _ _ => trivial) (fun δ K' hK' => ?_)⟩
          have E1 := Lib.hid (show Ext _ δ.wd from ⟨δ, rfl⟩)
          have HX1 := Lib.hid (HXT.out.trans E1.out)
          (try have HC1 := Lib.hid (And.intro (E1.out.cell_some HC.out.1) (And.intro (E1.out.cell_some HC.out.2.1) (And.intro (E1.out.frozen HC.out.1 HC.out.2.2.1) (And.intro (E1.out.frozen HC.out.2.1 HC.out.2.2.2.1) HC.out.2.2.2.2)))))
          (try have hc0 := HC1.out.1)
          (try have hc1 := HC1.out.2.1)
          (try have hf0 := HC1.out.2.2.1)
          (try have hf1 := HC1.out.2.2.2.1)
          (try have hl0 := cell_lt hc0)
          go_simp
          first
            | (refine (callsIn_wide.2 (HBR.out δ.wd)).mono ?_
               rintro e w3 ⟨rfl, x3⟩
               refine ⟨_, rfl, x3.belB HX1.out.bel.size, hK' _ _ ?_⟩
               (try have HC := Lib.hid (And.intro (x3.cell_some HC1.out.1) (And.intro (x3.cell_some HC1.out.2.1) (And.intro (x3.frozen HC1.out.1 HC1.out.2.2.1) (And.intro (x3.frozen HC1.out.2.1 HC1.out.2.2.2.1) HC1.out.2.2.2.2)))))
               have HXT := Lib.hid (HX1.out.trans x3)
               clear x3 hK')
            | (refine ⟨Below.refl _ _, hK' _ _ ?_⟩
               (try have HC := HC1)
               have HXT := HX1
               clear hK')
            | (refine ⟨((Below.refl _ _).alloc HX1.out.bel.size _), hK' _ _ ?_⟩
               have HC := Lib.hid (box_two δ.wd wr.heap.size HX1.out.bel.size)
               have HXT := Lib.hid (HX1.out.alloc (.cells #[.int .i64 0, .int .i64 0] 27))
               clear hK')
            | (have hle := HC1.out.2.2.2.2
               refine ⟨below_put2 hle, hK' _ _ ?_⟩
               have HC := Lib.hid (box_put HC1.out (.int .i64 sn) (.int .i64 sd))
               have HXT := Lib.hid (ext_put2 HX1.out hle (.int .i64 sn) (.int .i64 sd))
               clear hK' hle)
          (try clear hc0)
          (try clear hc1)
          (try clear hf0)
          (try clear hf1)
          (try clear hl0)))
      all_goals (
        first
          | refine wpAnyT_step [7, 11] (by decide +kernel) (by decide) (by decide) ?_
          | refine wpAnyT_step [8, 11] (by decide +kernel) (by decide) (by decide) ?_
          | refine wpAnyT_step [9, 10, 11] (by decide +kernel) (by decide) (by decide) ?_
          | refine wpAnyT_step [10, 11] (by decide +kernel) (by decide) (by decide) ?_
          | refine wpAnyT_step [9, 11] (by decide +kernel) (by decide) (by decide) ?_
          | refine wpAnyT_step [10, 12] (by decide +kernel) (by decide) (by decide) ?_
          | refine wpAnyT_step [9, 10] (by decide +kernel) (by decide) (by decide) ?_
          | refine wpAnyT_step [7] (by decide +kernel) (by decide) (by decide) ?_
          | refine wpAnyT_step [8] (by decide +kernel) (by decide) (by decide) ?_
          | refine wpAnyT_step [9] (by decide +kernel) (by decide) (by decide) ?_
          | refine wpAnyT_step [10] (by decide +kernel) (by decide) (by decide) ?_
          | refine wpAnyT_step [11] (by decide +kernel) (by decide) (by decide) ?_
          | refine wpAnyT_step [12] (by decide +kernel) (by decide) (by decide) ?_
        intro i hi
        simp only [List.mem_cons, List.not_mem_nil, or_false] at hi
        first | (rcases hi with rfl | rfl | rfl) | (rcases hi with rfl | rfl) | (subst hi)
        all_goals (
          refine ⟨_, by rfl, midT_step (by rfl) (fun _ _ _ => trivial) (fun δ K' hK' => ?_)⟩
          have E1 := Lib.hid (show Ext _ δ.wd from ⟨δ, rfl⟩)
          have HX1 := Lib.hid (HXT.out.trans E1.out)
          (try have HC1 := Lib.hid (And.intro (E1.out.cell_some HC.out.1) (And.intro (E1.out.cell_some HC.out.2.1) (And.intro (E1.out.frozen HC.out.1 HC.out.2.2.1) (And.intro (E1.out.frozen HC.out.2.1 HC.out.2.2.2.1) HC.out.2.2.2.2)))))
          (try have hc0 := HC1.out.1)
          (try have hc1 := HC1.out.2.1)
          (try have hf0 := HC1.out.2.2.1)
          (try have hf1 := HC1.out.2.2.2.1)
          (try have hl0 := cell_lt hc0)
          go_simp
          first
            | (refine (callsIn_wide.2 (HBR.out δ.wd)).mono ?_
               rintro e w3 ⟨rfl, x3⟩
               refine ⟨_, rfl, x3.belB HX1.out.bel.size, hK' _ _ ?_⟩
               (try have HC := Lib.hid (And.intro (x3.cell_some HC1.out.1) (And.intro (x3.cell_some HC1.out.2.1) (And.intro (x3.frozen HC1.out.1 HC1.out.2.2.1) (And.intro (x3.frozen HC1.out.2.1 HC1.out.2.2.2.1) HC1.out.2.2.2.2)))))
               have HXT := Lib.hid (HX1.out.trans x3)
               clear x3 hK')
            | (refine ⟨Below.refl _ _, hK' _ _ ?_⟩
               (try have HC := HC1)
               have HXT := HX1
               clear hK')
            | (refine ⟨((Below.refl _ _).alloc HX1.out.bel.size _), hK' _ _ ?_⟩
               have HC := Lib.hid (box_two δ.wd wr.heap.size HX1.out.bel.size)
               have HXT := Lib.hid (HX1.out.alloc (.cells #[.int .i64 0, .int .i64 0] 27))
               clear hK')
            | (have hle := HC1.out.2.2.2.2
               refine ⟨below_put2 hle, hK' _ _ ?_⟩
               have HC := Lib.hid (box_put HC1.out (.int .i64 sn) (.int .i64 sd))
               have HXT := Lib.hid (ext_put2 HX1.out hle (.int .i64 sn) (.int .i64 sd))
               clear hK' hle)
          (try clear hc0)
          (try clear hc1)
          (try clear hf0)
          (try clear hf1)
          (try clear hl0)))
      all_goals (
        first
          | refine wpAnyT_step [7, 11] (by decide +kernel) (by decide) (by decide) ?_
          | refine wpAnyT_step [8, 11] (by decide +kernel) (by decide) (by decide) ?_
          | refine wpAnyT_step [9, 10, 11] (by decide +kernel) (by decide) (by decide) ?_
          | refine wpAnyT_step [10, 11] (by decide +kernel) (by decide) (by decide) ?_
          | refine wpAnyT_step [9, 11] (by decide +kernel) (by decide) (by decide) ?_
          | refine wpAnyT_step [10, 12] (by decide +kernel) (by decide) (by decide) ?_
          | refine wpAnyT_step [9, 10] (by decide +kernel) (by decide) (by decide) ?_
          | refine wpAnyT_step [7] (by decide +kernel) (by decide) (by decide) ?_
          | refine wpAnyT_step [8] (by decide +kernel) (by decide) (by decide) ?_
          | refine wpAnyT_step [9] (by decide +kernel) (by decide) (by decide) ?_
          | refine wpAnyT_step [10] (by decide +kernel) (by decide) (by decide) ?_
          | refine wpAnyT_step [11] (by decide +kernel) (by decide) (by decide) ?_
          | refine wpAnyT_step [12] (by decide +kernel) (by decide) (by decide) ?_
        intro i hi
        simp only [List.mem_cons, List.not_mem_nil, or_false] at hi
        first | (rcases hi with rfl | rfl | rfl) | (rcases hi with rfl | rfl) | (subst hi)
        all_goals (
          refine ⟨_, by rfl, midT_step (by rfl) (fun _ _ _ => trivial) (fun δ K' hK' => ?_)⟩
          have E1 := Lib.hid (show Ext _ δ.wd from ⟨δ, rfl⟩)
          have HX1 := Lib.hid (HXT.out.trans E1.out)
          (try have HC1 := Lib.hid (And.intro (E1.out.cell_some HC.out.1) (And.intro (E1.out.cell_some HC.out.2.1) (And.intro (E1.out.frozen HC.out.1 HC.out.2.2.1) (And.intro (E1.out.frozen HC.out.2.1 HC.out.2.2.2.1) HC.out.2.2.2.2)))))
          (try have hc0 := HC1.out.1)
          (try have hc1 := HC1.out.2.1)
          (try have hf0 := HC1.out.2.2.1)
          (try have hf1 := HC1.out.2.2.2.1)
          (try have hl0 := cell_lt hc0)
          go_simp
          first
            | (refine (callsIn_wide.2 (HBR.out δ.wd)).mono ?_
               rintro e w3 ⟨rfl, x3⟩
               refine ⟨_, rfl, x3.belB HX1.out.bel.size, hK' _ _ ?_⟩
               (try have HC := Lib.hid (And.intro (x3.cell_some HC1.out.1) (And.intro (x3.cell_some HC1.out.2.1) (And.intro (x3.frozen HC1.out.1 HC1.out.2.2.1) (And.intro (x3.frozen HC1.out.2.1 HC1.out.2.2.2.1) HC1.out.2.2.2.2)))))
               have HXT := Lib.hid (HX1.out.trans x3)
               clear x3 hK')
            | (refine ⟨Below.refl _ _, hK' _ _ ?_⟩
               (try have HC := HC1)
               have HXT := HX1
               clear hK')
            | (refine ⟨((Below.refl _ _).alloc HX1.out.bel.size _), hK' _ _ ?_⟩
               have HC := Lib.hid (box_two δ.wd wr.heap.size HX1.out.bel.size)
               have HXT := Lib.hid (HX1.out.alloc (.cells #[.int .i64 0, .int .i64 0] 27))
               clear hK')
            | (have hle := HC1.out.2.2.2.2
               refine ⟨below_put2 hle, hK' _ _ ?_⟩
               have HC := Lib.hid (box_put HC1.out (.int .i64 sn) (.int .i64 sd))
               have HXT := Lib.hid (ext_put2 HX1.out hle (.int .i64 sn) (.int .i64 sd))
               clear hK' hle)
          (try clear hc0)
          (try clear hc1)
          (try clear hf0)
          (try clear hf1)
          (try clear hl0)))
      all_goals (
        refine ⟨by decide +kernel, fun w4 x4 => ?_⟩
        have c0 := x4.cell_some HC.out.1
        have c1 := x4.cell_some HC.out.2.1
        have f0 := x4.frozen HC.out.1 HC.out.2.2.1
        have f1 := x4.frozen HC.out.2.1 HC.out.2.2.2.1
        have lc := cell_lt c0
        have HBW := Lib.hid HC.out.2.2.2.2
        have hx4 := HXT.out.trans x4
        have HX4 := Lib.hid hx4
        replace d0 := hx4.cell_some d0
        replace s0 := hx4.cell_some s0
        replace s1 := hx4.cell_some s1
        have ld := cell_lt d0
        have lss := cell_lt s0
        clear x4 hx4 q0 q1 lq a2 b0 b1 b2 la lb
        simp only [List.drop_succ_cons, List.drop_zero]
        gi_wp2
        obtain ⟨bx, hbx⟩ := box_name c0
        rw [← hbx] at c0 c1 f0 f1 lc HBW ⊢
        clear hbx)
      all_goals (
        cases bj
        · simp only [Bool.false_eq_true, if_false] at s0 s1
          go_wp2_with fail
          refine wp_region_bext (by kernel_rfl) (by kernel_rfl) ?_
          repeat (any_goals (go_big_quiet_step (fail)))
          all_goals refine wpQuiet_nil ?_
          all_goals rintro _ ⟨δ, rfl⟩
          have HX7 := Lib.hid (HX.out.trans (HX4.out.trans (show Ext w4 δ.wd from ⟨δ, rfl⟩)))
          generalize δ.wd = W7 at *
          go_wp2_with fail
          go_roundw
          case rel => exact ⟨j + 1, by omega, by go_num, HX7.out⟩
          case measure => simp [intOf]; omega
        · simp only [if_true] at s0 s1
          go_wp2_with fail
          obtain ⟨t0, t1, -, -, -⟩ := box_put (B := wr.heap.size) ⟨c0, c1, f0, f1, HBW.out⟩ (.int .i64 0) (.int .i64 1)
          have hx5 := ext_put2 HX4.out HBW.out (.int .i64 0) (.int .i64 1)
          have hs0 := hx5.cell_some HSW.out.1
          have hs1 := hx5.cell_some HSW.out.2
          simp only [if_true] at hs0 hs1
          refine lay_wp (fun W => Ext w5 W ∧ W.cell? ⟨bx, 0, none⟩ = some (.int .i64 0) ∧ W.cell? ⟨bx, 1, none⟩ = some (.int .i64 1) ∧ W.cell? ⟨bs, os + j * 2, none⟩ = some (.int .i64 0) ∧ W.cell? ⟨bs, os + j * 2 + 1, none⟩ = some (.int .i64 1)) ⟨HX.out.trans hx5, t0, t1, hs0, hs1⟩ ?_
          clear hs0 hs1 hx5 t0 t1 s0 s1 c0 c1 f0 f1 lc ld lss d0
          rintro W5 ⟨x5, t0, t1, s0, s1⟩
          have HX6 := Lib.hid x5
          have lc := cell_lt t0
          have lss := cell_lt s0
          clear x5
          refine wp_region_bext (by kernel_rfl) (by kernel_rfl) ?_
          repeat (any_goals (go_big_quiet_step (fail)))
          all_goals refine wpQuiet_nil ?_
          all_goals rintro _ ⟨δ, rfl⟩
          have HX7 := Lib.hid (HX6.out.trans (show Ext W5 δ.wd from ⟨δ, rfl⟩))
          generalize δ.wd = W7 at *
          go_wp2_with fail
          go_roundw
          case rel => exact ⟨j + 1, by omega, by go_num, HX7.out⟩
          case measure => simp [intOf]; omega)
    · obtain rfl : j = M := by omega
      have a0 := hx.cell_some HA.out.1
      have a1 := hx.cell_some HA.out.2.1
      have a2 := hx.cell_some HA.out.2.2.1
      have a3 := hx.cell_some HA.out.2.2.2.1
      have b0 := hx.cell_some HA.out.2.2.2.2.1
      have b1 := hx.cell_some HA.out.2.2.2.2.2.1
      have b2 := hx.cell_some HA.out.2.2.2.2.2.2
      have la := cell_lt a0
      have lb := cell_lt b0
      clear hx
      go_wp2_with fail
      refine (HTW.out _ (HX5.out.trans HX.out) (by have := HG.out; omega)).mono ?_
      rintro e w6 ⟨tv, rfl, ot, x6⟩
      have HX6 := Lib.hid (HX5.out.trans (HX.out.trans x6))
      replace b0 := x6.cell_some b0
      replace b1 := x6.cell_some b1
      replace b2 := x6.cell_some b2
      replace lb := cell_lt b0
      have hlen : (hs.length : Int) = W * H := (surfB_iff.1 HNM.out.2.2.2.1).2.2.2.1
      have hall := (surfB_iff.1 HNM.out.2.2.2.1).2.2.2.2
      obtain ⟨N, hN⟩ : ∃ N, hs.length = N := ⟨_, rfl⟩
      have hN0 : 0 < N := by
        obtain ⟨hn, hm, -⟩ := HNM.out
        have h1 : (N : Int) = ((n : Int) + 1) * ((m : Int) + 1) := by rw [← hN, hlen, hn, hm]
        have h2 : 0 < ((n : Int) + 1) * ((m : Int) + 1) := Int.mul_pos (by omega) (by omega)
        omega
      obtain ⟨g, cg, rfl, hg1, hg2, -⟩ := ot.slot (j := 0) (by omega)
      rw [hN] at ot
      rw [hN]
      have HO := Lib.hid ot
      have HN := Lib.hid hN
      have HP6 := Lib.hid x6
      clear ot x6 a0 a1 a2 a3 la hlen
      go_wp2_with fail
      have HZ := Lib.hid (raised_zero hs (by_ := by_) N hN)
      have hwr : ∀ i, IntKind.i64.wrap (hA hs i + by_) = hA hs i + by_ := fun i => IntWalk.i64_in _ (by have := hA_bd hall i; have := HBY.out; omega)
      have HWR := Lib.hid hwr
      have hN7 : N ≤ 700 := by have := HG.out; omega
      clear hall hwr hN
      have HO0 := Lib.hid (show intK.Own wr.heap.size w6 (.slice (some ⟨g, 0, none⟩) N cg) (raisedL hs by_ N 0) from by rw [HZ.out]; exact HO.out)
      refine lay_wp (fun Wa => intK.Own wr.heap.size Wa (.slice (some ⟨g, 0, none⟩) N cg) (raisedL hs by_ N 0) ∧ Ext w6 Wa ∧ Wa.cell? ⟨w6.heap.size, 0, none⟩ = some (.int .i64 W) ∧ Wa.cell? ⟨w6.heap.size, 1, none⟩ = some (.int .i64 H) ∧ Wa.cell? ⟨w6.heap.size, 2, none⟩ = some (.int .i64 P) ∧ Wa.cell? ⟨w6.heap.size, 3, none⟩ = some (.slice (some ⟨g, 0, none⟩) N cg)) ⟨HO0.out.ext ((Ext.refl _).alloc _), by (repeat' (first | with_reducible exact Ext.refl _ | with_reducible apply Ext.alloc | with_reducible apply Ext.drew | with_reducible apply Ext.drewN | with_reducible refine Ext.setCell ?_ ?_ _ | with_reducible apply Ext.step | with_reducible assumption | with_reducible exact Nat.le_refl _ | (simp; done) | (simp; omega))), by go_cell, by go_cell, by go_cell, by go_cell⟩ ?_
      rintro Wa ⟨ho, hxa, s0, s1, s2, s3⟩
      have HOA := Lib.hid ho
      have HXA := Lib.hid hxa
      have HS := Lib.hid (And.intro s0 (And.intro s1 (And.intro s2 s3)))
      have HB := Lib.hid (And.intro b0 (And.intro b1 b2))
      clear ho hxa s0 s1 s2 s3 b0 b1 b2 lb HO0 HO
      obtain ⟨wp, rfl⟩ : ∃ wp, wp = wr := ⟨wr, rfl⟩
      go_loopw [131] (fun iv wr => ∃ i : Nat, i ≤ N ∧ iv = .int .i64 (i : Int) ∧ intK.Own wp.heap.size wr (.slice (some ⟨g, 0, none⟩) N cg) (raisedL hs by_ N i) ∧ But [g] Wa wr) (fun iv _ => N - (intOf iv).toNat)
      case atStart => exact ⟨0, by omega, rfl, HOA.out, But.refl _ _⟩
      case round =>
        obtain ⟨i, hi, rfl, ho, hb⟩ := hrel
        have HOI := Lib.hid ho
        have HBB := Lib.hid hb
        have s0 := hb.cell HS.out.1 (by simp; omega)
        have s1 := hb.cell HS.out.2.1 (by simp; omega)
        have s2 := hb.cell HS.out.2.2.1 (by simp; omega)
        have s3 := hb.cell HS.out.2.2.2 (by simp; omega)
        have lsx := cell_lt s0
        by_cases hlt : i < N
        · have hii : (i : Int) < (N : Int) := by omega
          obtain ⟨g', cg', hge, _, hgl, hgc, hgf⟩ := ho.slot (j := i) (by rw [raisedL_len]; exact hlt)
          simp only [Value.slice.injEq, Option.some.injEq, Addr.mk.injEq] at hge
          obtain ⟨⟨rfl, -⟩, -, -⟩ := hge
          have g0 := hgc 0 _ rfl
          rw [raisedL_at] at g0
          simp only [intK, Nat.mul_one, Nat.add_zero] at g0
          have gf := hgf i
          have hwi := HWR.out i
          have HST := Lib.hid (raisedL_set (hs := hs) (by_ := by_) (N := N) (i := i))
          clear hgc hgf ho hb
          generalize hA hs i = hi0 at *
          go_wp2_with fail
          go_roundw
          case rel =>
            have h1 := HOI.out.put1N raisedL_len hlt rfl (hi0 + by_) (.int .i64 (hi0 + by_)) rfl
            rw [HST.out] at h1
            exact ⟨i + 1, by omega, by go_num, h1, HBB.out.setCell (by simp) _⟩
          case measure => simp [intOf]; omega
        · obtain rfl : i = N := by omega
          have hxf : Ext wp wr := hb.below (HP6.out.trans HXA.out) (by simp; exact hg1)
          have HXF := Lib.hid (HX.out.trans hxf)
          have b0 := HXF.out.cell_some HA.out.2.2.2.2.1
          have b1 := HXF.out.cell_some HA.out.2.2.2.2.2.1
          have b2 := HXF.out.cell_some HA.out.2.2.2.2.2.2
          have lb := cell_lt b0
          have hI := ho.is
          obtain ⟨wz, rfl⟩ : ∃ wz, wz = wr := ⟨wr, rfl⟩
          have HPR := Lib.hid fun (W1 : World) (x : Ext wz W1) => Picture_any W H P _ _ lx ly lz W1 (hI.ext x)
          clear ho hb hI hxf
          go_wp2_with fail
          refine (HPR.out _ (Ext.refl _)).mono ?_
          rintro e w7 ⟨v7, rfl, o7, x7⟩
          have HX7 := Lib.hid (HXF.out.trans x7)
          obtain ⟨A7, k7, c7, rfl⟩ := o7.shape
          have HO7 := Lib.hid o7.is
          clear o7 x7 b0 b1 b2 lb s0 s1 s2 s3 lsx HPR
          by_cases he : shadE W H P (raisedL hs by_ i i) lx ly lz = 0
          · have hpl := raised_picture HNM.out.1 HNM.out.2.1 HNM.out.2.2.2.1 HN.out HNM.out.2.2.2.2.2.1 (shadE_ok he).1 (shadE_ok he).2
            rw [hpl] at HO7
            rw [he]
            have C := sameShades_any _ _ _ _ w7 (HR5.out.ext HX7.out) HO7.out
            rw [decide_eq_true rfl] at C
            have HSA := Lib.hid C
            clear C hpl he
            go_wp2_with fail
            refine HSA.out.mono ?_
            rintro e w8 ⟨rfl, x8⟩
            have HX8 := Lib.hid (HX5.out.trans (HX7.out.trans x8))
            clear x8
            go_wp2_with fail
            go_ret
            exact ⟨rfl, HX8.out⟩
          · have f1 : (shadE W H P (raisedL hs by_ i i) lx ly lz != 0) = true := by simpa using he
            generalize shadE W H P (raisedL hs by_ i i) lx ly lz = er at *
            clear he
            go_wp2_with fail
            go_ret
            exact ⟨rfl, HX5.out.trans HX7.out⟩
end Go.Proofs.Ytlljhimaopnbfaa
