/- lathe.Spell. Condition: the mask reads as a table of at least five rows, each wide enough. -/
import Derived.Test.YtkjgcmdabelohaaTEveryB
import Derived.Test.YtkjgcmdabelohaaTNum
namespace Go.Proofs.Ytkjgcmdabelohaa
open Go.RowKit

/-- How many of the first q places from a place on are true. -/
def cntB (l : List Bool) (a q : Nat) : Nat := ((l.drop a).take q).count true
theorem cntB_step {l : List Bool} {a q : Nat} (h : a + q < l.length) : cntB l a (q + 1) = cntB l a q + if l[a + q] = true then 1 else 0 := by
  unfold cntB
  rw [List.take_succ_eq_append_getElem (by simp; omega), List.count_append, List.getElem_drop]
  congr 1
  cases l[a + q] <;> rfl
theorem cntB_all {l : List Bool} {a q : Nat} {b : Bool} (hl : a + q ≤ l.length) (h : ∀ j (hj : a + j < l.length), j < q → l[a + j] = b) : cntB l a q = if b = true then q else 0 := by
  induction q with
  | zero => cases b <;> simp [cntB]
  | succ q ih =>
    rw [cntB_step (by omega), ih (by omega) (fun j hj hq => h j hj (by omega)), h q (by omega) (by omega)]
    cases b <;> simp
/-- The mask says the word: at the columns of each cell of each glyph. -/
structure SaysW (xss : List (List Bool)) (ws : List Nat) (size : Nat) : Prop where
  len : 5 ≤ xss.length
  wide : ∀ (r : Nat) (h : r < xss.length), r < 5 → (size : Int) * (4 * (ws.length : Int) - 1) ≤ (xss[r].length : Int)
  at_ : ∀ (r : Nat) (h : r < xss.length), r < 5 → ∀ i (hi : i < ws.length) k, k < 3 → ∀ j, j < size → xss[r][size * (4 * i + k) + j]? = some (gbit ws[i] r k)
theorem mask_says {ws : List Nat} {size cols : Nat} (hw : (size : Int) * (4 * (ws.length : Int) - 1) ≤ (cols : Int)) : SaysW ((List.range 5).map fun r => maskR ws size cols r ws.length 0) ws size := by
  refine ⟨by simp, fun r h h5 => by simpa [maskR_len] using hw, fun r h h5 i hi k hk j hj => ?_⟩
  simp only [List.getElem_map, List.getElem_range]
  have hc : size * (4 * i + k) + j < cols := by
    have e1 : size * (4 * i + k) + size = size * (4 * i + k + 1) := by rw [Nat.mul_add size (4 * i + k) 1, Nat.mul_one]
    have e2 : size * (4 * i + k + 1) ≤ size * (4 * ws.length - 1) := Nat.mul_le_mul_left size (by omega)
    have e3 : ((size * (4 * ws.length - 1) : Nat) : Int) = (size : Int) * (4 * (ws.length : Int) - 1) := by
      rw [Int.natCast_mul]
      congr 1
      omega
    omega
  unfold maskR
  rw [List.getElem?_map, List.getElem?_range hc]
  exact congrArg some (maskB_at hi hk hj)

/-- The cells of the glyph that is spelled, when m of them are set. -/
def scell (n m c : Nat) : Value := .bool (decide (c < m) && decide (n / 2 ^ (14 - c) % 2 = 1))
def scells (n m : Nat) : Array Value := ((List.range 15).map (scell n m)).toArray
theorem scells_at {n m c : Nat} (h : c < 15) : (scells n m).toList[c]? = some (scell n m c) := by simp [scells, h]
theorem scells_zero (n : Nat) : scells n 0 = #[.bool false, .bool false, .bool false, .bool false, .bool false, .bool false, .bool false, .bool false, .bool false, .bool false, .bool false, .bool false, .bool false, .bool false, .bool false] := by
  unfold scells scell
  simp [List.range, List.range.loop]
theorem scells_all (n : Nat) : scells n 15 = gcells n 15 := by
  unfold scells gcells scell gcell
  congr 1
theorem scells_step {n m : Nat} (_ : m < 15) : (scells n m).setIfInBounds m (.bool (decide (n / 2 ^ (14 - m) % 2 = 1))) = scells n (m + 1) := by
  apply Array.ext
  · simp [scells]
  · intro i h1 h2
    have hi : i < 15 := by simpa [scells] using h2
    have h3 : i < (scells n m).size := by simpa [scells] using hi
    rw [Array.getElem_setIfInBounds h3]
    split
    · rename_i e
      subst e
      simp only [scells, List.getElem_toArray, List.getElem_map, List.getElem_range, scell]
      rw [decide_eq_true (by omega : m < m + 1), Bool.true_and]
    · rename_i e
      simp only [scells, List.getElem_toArray, List.getElem_map, List.getElem_range, scell]
      rw [show decide (i < m + 1) = decide (i < m) from decide_eq_decide.2 (by omega)]
theorem scells_bit {n r k : Nat} (hr : r < 5) (hk : k < 3) : (scells n (3 * r + k)).setIfInBounds (r * 3 + k) (.bool (gbit n r k)) = scells n (3 * r + (k + 1)) := by
  have := scells_step (n := n) (m := 3 * r + k) (by omega)
  rw [show r * 3 + k = 3 * r + k by omega]
  exact this
theorem own_shapeS {α : Type} {K : EK α} {B : Nat} {w : World} {v : Value} {xs : List α} (h : K.Own B w v xs) : ∃ A k c, v = .slice A k c := by
  obtain ⟨A, c, rfl, _⟩ := h.is
  exact ⟨A, _, c, rfl⟩
/-- How many of q places are true, where all are alike. -/
def ctB (bt : Bool) (q : Nat) : Int := if bt = true then (q : Int) else 0
theorem ctB_t (q : Nat) : ctB true q = (q : Int) := rfl
theorem ctB_f (q : Nat) : ctB false q = 0 := rfl
theorem ctB_cmp (bt : Bool) {size : Nat} (h : 1 ≤ size) : decide ((size : Int) / 2 < ctB bt size) = bt := by
  cases bt
  · rw [ctB_f]; simp; omega
  · rw [ctB_t]; simp; omega
/-- A place of the mask's row. -/
theorem bools_row {w : World} {A : Option Addr} {xs : List Bool} (h : boolK.Row w A xs) (j : Nat) (hj : j < xs.length) : ∃ b o, A = some ⟨b, o, none⟩ ∧ b < w.heap.size ∧ w.cell? ⟨b, o + j, none⟩ = some (.bool xs[j]) := by
  obtain ⟨b, o, rfl, hb, hc⟩ := h j hj
  have h3 := hc 0 _ rfl
  rw [show boolK.k = 1 from rfl, Nat.mul_one, Nat.add_zero] at h3
  exact ⟨b, o, rfl, hb, h3⟩

set_option maxRecDepth 100000 in
set_option maxHeartbeats 8000000 in
theorem spell_any (v : Value) (xss : List (List Bool)) (ws : List Nat) (size : Nat) (w : World) (ht : TabIs rowsK boolK w v xss) (h5 : 5 = xss.length) (hs1 : 1 ≤ size) (hs2 : size ≤ 40) (hn : ws.length ≤ 8) (hw : SaysW xss ws size) (h15 : ∀ q ∈ ws, q < 2 ^ 15) :
    Calls Try.prog 18 #[v, .int .i64 (size : Int), .int .i64 (ws.length : Int)] w (RetEE intK w (ws.map Int.ofNat) 0) := by
  have HWI := Lib.hid fun (n lo hi : Int) (W : World) => latheWithin_any n lo hi W
  have HEV := Lib.hid fun (b1 b2 : Nat) (W : World) (x : Ext w W) h1 h2 => everyB_any v xss size ws.length b1 b2 W (ht.ext x) h1 h2 (by omega) (by omega) (by omega)
  have HALL := Lib.hid (show (xss.all fun l => decide ((size : Int) * (4 * (ws.length : Int) - 1) ≤ (l.length : Int))) = true by
    rw [List.all_eq_true]
    intro l hl
    obtain ⟨r, hr, rfl⟩ := List.getElem_of_mem hl
    exact decide_eq_true (hw.wide r hr (by omega)))
  have HW1 := Lib.hid fun W : World => (show Calls Try.prog 47 #[.int .i64 (size : Int), .int .i64 1, .int .i64 40] W fun e w' => e = .returned (.bool true) ∧ Ext W w' from by
    have := HWI.out size 1 40 W
    rwa [inB_iff.2 ⟨by omega, by omega⟩] at this)
  have HW2 := Lib.hid fun W : World => (show Calls Try.prog 47 #[.int .i64 (ws.length : Int), .int .i64 0, .int .i64 8] W fun e w' => e = .returned (.bool true) ∧ Ext W w' from by
    have := HWI.out ws.length 0 8 W
    rwa [inB_iff.2 ⟨by omega, by omega⟩] at this)
  obtain ⟨Ts, hT, hTl, hrow⟩ := ht
  obtain ⟨A, n5, c, rfl, hn5, -, hr, hm⟩ := hT.open_
  obtain ⟨hc1, hc2⟩ : n5 ≤ c ∧ c ≤ 9223372036854775807 := by
    obtain ⟨_, _, he, -, h2, -⟩ := hT
    simp only [Value.slice.injEq] at he
    obtain ⟨-, rfl, rfl⟩ := he
    exact h2
  obtain rfl : n5 = 5 := by omega
  obtain ⟨b0, o0, rfl, hb0, -⟩ := hr 0 (by omega)
  have HROWS := Lib.hid (fun (r : Nat) (h5 : r < 5) => (show ∃ A2 L2 c2, w.cell? ⟨b0, o0 + r, none⟩ = some (.slice A2 L2 c2) ∧ (∀ (h : r < xss.length), xss[r].length = L2 ∧ boolK.Row w A2 xss[r]) ∧ L2 ≤ c2 ∧ c2 ≤ 9223372036854775807 from by
    have hlT : r < Ts.length := by omega
    obtain ⟨b, o, he, hb, hc⟩ := hr r hlT
    simp only [Option.some.injEq, Addr.mk.injEq, and_true] at he
    obtain ⟨rfl, rfl⟩ := he
    have h3 := hc 0 _ rfl
    rw [show rowsK.k = 1 from rfl, Nat.mul_one, Nat.add_zero] at h3
    obtain ⟨A2, c2, hv, -, hcc, hro⟩ := hrow r hlT (by omega)
    have h4 : w.cell? ⟨b0, o0 + r, none⟩ = some (rowH Ts[r]) := h3
    rw [hv] at h4
    exact ⟨A2, _, c2, h4, fun _ => ⟨rfl, hro⟩, hcc.1, hcc.2⟩))
  have HSW := Lib.hid hw
  have H15 := Lib.hid h15
  have HLX := Lib.hid h5
  obtain ⟨nn, hnn⟩ : ∃ nn, nn = ws.length := ⟨_, rfl⟩
  rw [← hnn] at hn HW2 HEV HALL ⊢
  have HNN := Lib.hid hnn
  rw [HALL.out] at HEV
  have hn0 : (0 : Int) ≤ (nn : Int) := by omega
  clear hnn hw h15 h5 hr hrow hTl hT hn5 hm HALL HWI
  go_enter Try.func18, Try.ntmps18
  go_wp2_with fail
  refine lay_calls (fun W => Ext w W ∧ W.cell? ⟨w.heap.size, 0, none⟩ = some (.int .i64 size) ∧ W.cell? ⟨w.heap.size + 1, 0, none⟩ = some (.int .i64 nn)) ⟨by (repeat' (first | with_reducible exact Ext.refl _ | with_reducible apply Ext.alloc | with_reducible apply Ext.drew | with_reducible apply Ext.drewN | with_reducible refine Ext.setCell ?_ ?_ _ | with_reducible apply Ext.step | with_reducible assumption | with_reducible exact Nat.le_refl _ | (simp; done) | (simp; omega))), by go_cell, by go_cell⟩ ?_
  rintro W0 ⟨x0, s0, s1⟩
  have HX0 := Lib.hid x0
  clear x0
  refine (HW1.out _).mono ?_
  rintro e W1 ⟨rfl, x1⟩
  have HX1 := Lib.hid (HX0.out.trans x1)
  replace s0 := x1.cell_some s0
  replace s1 := x1.cell_some s1
  have l0 := cell_lt s0
  have l1 := cell_lt s1
  clear x1
  go_wp2_with fail
  refine (HW2.out _).mono ?_
  rintro e W2 ⟨rfl, x2⟩
  have HX2 := Lib.hid (HX1.out.trans x2)
  replace s0 := x2.cell_some s0
  replace s1 := x2.cell_some s1
  replace l0 := cell_lt s0
  replace l1 := cell_lt s1
  clear x2
  go_wp2_with fail
  refine (HEV.out _ _ _ HX2.out s0 s1).mono ?_
  rintro e W3 ⟨rfl, x3⟩
  have HX3 := Lib.hid (HX2.out.trans x3)
  replace s0 := x3.cell_some s0
  replace s1 := x3.cell_some s1
  replace l0 := cell_lt s0
  replace l1 := cell_lt s1
  have HS0 := Lib.hid s0
  clear x3
  go_wp2_with fail
  have HS1 := Lib.hid s1
  clear s1 l1
  go_loopw [36, 8] (fun iv ov wr => ∃ i : Nat, i ≤ nn ∧ iv = .int .i64 (i : Int) ∧ intK.Own W3.heap.size wr ov ((ws.take i).map Int.ofNat) ∧ Ext W3 wr) (fun iv _ _ => nn - (intOf iv).toNat)
  case atStart => exact ⟨0, by omega, rfl, EK.Own.nil _ _, Ext.refl _⟩
  case round =>
    obtain ⟨wo, rfl⟩ : ∃ wo, wo = wr := ⟨_, rfl⟩
    obtain ⟨i, hi, rfl, ho, hx⟩ := hrel
    have HO := Lib.hid ho
    have HX := Lib.hid hx
    by_cases hlt : i < nn
    · have hil : i < ws.length := by rw [← HNN.out]; exact hlt
      have hii : (i : Int) < (nn : Int) := by omega
      have hi8 : i < 8 := by omega
      obtain ⟨N, hN⟩ : ∃ N, N = ws[i] := ⟨_, rfl⟩
      have HN := Lib.hid hN
      have HZ := Lib.hid (show BoxAt wo.heap.size (scells N 0) 112 (wo.alloc (.cells #[.bool false, .bool false, .bool false, .bool false, .bool false, .bool false, .bool false, .bool false, .bool false, .bool false, .bool false, .bool false, .bool false, .bool false, .bool false] 112)) from by
        rw [scells_zero]
        exact BoxAt.new wo _ _)
      clear ho hx hN
      go_wp2_with fail
      refine lay_wp (fun W => BoxAt wo.heap.size (scells N 0) 112 W ∧ Ext wo W) ⟨HZ.out, (Ext.refl _).alloc _⟩ ?_
      rintro Wb ⟨hb, hxb⟩
      obtain ⟨gb, hgb⟩ : ∃ z, z = wo.heap.size := ⟨_, rfl⟩
      rw [← hgb] at hb ⊢
      have HGB := Lib.hid hgb
      have HB := Lib.hid hb
      have HXB := Lib.hid hxb
      clear hb hxb HZ s0 l0 hgb
      go_loopw [39] (fun rv wr => ∃ r : Nat, r ≤ 5 ∧ rv = .int .i64 (r : Int) ∧ BoxAt gb (scells N (3 * r)) 112 wr ∧ Ext wo wr) (fun rv _ => 5 - (intOf rv).toNat)
      case atStart => exact ⟨0, by omega, rfl, HB.out, HXB.out⟩
      case round =>
        obtain ⟨r, hr, rfl, hb, hxb⟩ := hrel
        have HBR := Lib.hid hb
        have HXR := Lib.hid hxb
        by_cases hr5 : r < 5
        · have hri : (r : Int) < 5 := by omega
          obtain ⟨A2, L2, c2, hcell, hrow, hlc, hc9⟩ := HROWS.out r hr5
          obtain ⟨hL2, hrow⟩ := hrow (by rw [← HLX.out]; exact hr5)
          have HCE := Lib.hid hcell
          have HRW := Lib.hid hrow
          have HL2 := Lib.hid hL2
          clear hb hxb hcell hrow hL2
          go_wp2_with fail
          go_loopw [42] (fun kv wr => ∃ k : Nat, k ≤ 3 ∧ kv = .int .i64 (k : Int) ∧ BoxAt gb (scells N (3 * r + k)) 112 wr ∧ Ext wo wr) (fun kv _ => 3 - (intOf kv).toNat)
          case atStart => exact ⟨0, by omega, rfl, HBR.out, HXR.out⟩
          case round =>
            obtain ⟨k, hk, rfl, hb, hxb⟩ := hrel
            have HBK := Lib.hid hb
            have HXK := Lib.hid hxb
            by_cases hk3 : k < 3
            · have hki : (k : Int) < 3 := by omega
              have hr5' : r < xss.length := by rw [← HLX.out]; exact hr5
              obtain ⟨at_, hat⟩ : ∃ z, z = size * (4 * i + k) := ⟨_, rfl⟩
              have hat2 : at_ ≤ 40 * 31 := by rw [hat]; exact Nat.mul_le_mul hs2 (by omega)
              have hlim : at_ + size ≤ L2 := by
                have e1 : at_ + size = size * (4 * i + k + 1) := by rw [hat, Nat.mul_add size (4 * i + k) 1, Nat.mul_one]
                have e2 : size * (4 * i + k + 1) ≤ size * (4 * ws.length - 1) := Nat.mul_le_mul_left size (by omega)
                have e3 : ((size * (4 * ws.length - 1) : Nat) : Int) = (size : Int) * (4 * (ws.length : Int) - 1) := by
                  rw [Int.natCast_mul]
                  congr 1
                  omega
                have e4 := HSW.out.wide r hr5' hr5
                rw [HL2.out] at e4
                omega
              have HBITS := Lib.hid (show ∀ j, j < size → xss[r][at_ + j]? = some (gbit N r k) from fun j hj => by rw [hat, HN.out]; exact HSW.out.at_ r hr5' hr5 i hil k hk3 j hj)
              have e5 : IntKind.i64.wrap ((size : Int) * (4 * (i : Int) + (k : Int))) = (at_ : Int) := by
                rw [show (size : Int) * (4 * (i : Int) + (k : Int)) = (at_ : Int) by rw [hat]; simp]
                exact IntWalk.i64_in _ (by omega)
              obtain ⟨b2, o2, rfl, hb2, -⟩ := bools_row HRW.out 0 (by rw [HL2.out]; omega)
              have s0 := (HX.out.trans hxb).cell_some HS0.out
              have l0 := cell_lt s0
              have r0 := ((HX3.out.trans HX.out).trans hxb).cell_some HCE.out
              have lr := cell_lt r0
              have e6 : IntKind.i64.wrap ((at_ : Int) + (size : Int)) = (at_ : Int) + (size : Int) := IntWalk.i64_in _ (by omega)
              have e7 : (at_ : Int) + (size : Int) ≤ (c2 : Int) := by omega
              have e8 : (0 : Int) ≤ (at_ : Int) + (size : Int) := by omega
              have e9 : (at_ : Int) ≤ (at_ : Int) + (size : Int) := by omega
              obtain ⟨bt, hbt⟩ : ∃ z, z = gbit N r k := ⟨_, rfl⟩
              rw [← hbt] at HBITS
              have HBT := Lib.hid hbt
              clear hat hb hxb hb2 hbt
              go_wp2_with fail
              go_quiet (fail)
              go_wp2_with fail
              go_loopw [64, 14] (fun qv cv wr => ∃ q : Nat, q ≤ size ∧ qv = .int .i64 (q : Int) ∧ cv = .int .i64 (ctB bt q) ∧ BoxAt gb (scells N (3 * r + k)) 112 wr ∧ Ext wo wr) (fun qv _ _ => size - (intOf qv).toNat)
              case atStart => exact ⟨0, by omega, rfl, by cases bt <;> rfl, HBK.out.ext (by (repeat' (first | with_reducible exact Ext.refl _ | with_reducible apply Ext.alloc | with_reducible apply Ext.drew | with_reducible apply Ext.drewN | with_reducible refine Ext.setCell ?_ ?_ _ | with_reducible apply Ext.step | with_reducible assumption | with_reducible exact Nat.le_refl _ | (simp; done) | (simp; omega)))), HXK.out.trans (by (repeat' (first | with_reducible exact Ext.refl _ | with_reducible apply Ext.alloc | with_reducible apply Ext.drew | with_reducible apply Ext.drewN | with_reducible refine Ext.setCell ?_ ?_ _ | with_reducible apply Ext.step | with_reducible assumption | with_reducible exact Nat.le_refl _ | (simp; done) | (simp; omega))))⟩
              case round =>
                obtain ⟨q, hq, rfl, rfl, hb, hxb⟩ := hrel
                have HBQ := Lib.hid hb
                have HXQ := Lib.hid hxb
                by_cases hqs : q < size
                · have hqi : (q : Int) < (size : Int) := by omega
                  obtain ⟨b3, o3, he, hb3, m0⟩ := bools_row HRW.out (at_ + q) (by rw [HL2.out]; omega)
                  simp only [Option.some.injEq, Addr.mk.injEq, and_true] at he
                  obtain ⟨rfl, rfl⟩ := he
                  have hv := HBITS.out q hqs
                  rw [List.getElem?_eq_getElem (by rw [HL2.out]; omega)] at hv
                  rw [Option.some.inj hv, ← Nat.add_assoc] at m0
                  replace m0 := ((HX3.out.trans HX.out).trans hxb).cell_some m0
                  have lm := cell_lt m0
                  clear hv hb hxb hb3
                  cases bt
                  · rw [ctB_f]
                    go_wp2_with fail
                    go_roundw
                    case rel => exact ⟨q + 1, by omega, by go_num, by rw [ctB_f], HBQ.out, HXQ.out⟩
                    case measure => simp [intOf]; omega
                  · rw [ctB_t]
                    go_wp2_with fail
                    go_roundw
                    case rel => exact ⟨q + 1, by omega, by go_num, by rw [ctB_t]; go_num, HBQ.out, HXQ.out⟩
                    case measure => simp [intOf]; omega
                · obtain rfl : size = q := by omega
                  have s0 := (HX.out.trans hxb).cell_some HS0.out
                  have l0 := cell_lt s0
                  have hcmp := ctB_cmp bt hs1
                  obtain ⟨cv, hcv⟩ : ∃ z, z = ctB bt size := ⟨_, rfl⟩
                  rw [← hcv] at hcmp ⊢
                  have k0 := hb.cell (i := r * 3 + k) (scells_at (by omega))
                  have kf := frozen_of_row _ _ (r * 3 + k) _ _ hb
                  have HKF := Lib.hid (And.intro k0 kf)
                  have h2 : IntKind.i64.wrap ((size : Int) / 2) = (size : Int) / 2 := IntWalk.i64_in _ (by omega)
                  have hr5i : (r : Int) < 5 := by omega
                  clear hcv hb hxb k0 kf
                  have y0 := But.cells (D := []) s0 (by simp)
                  go_wp2_with fail
                  refine (wpIn_wide (n := 3)).1 ?_
                  refine wpIn_region_steps [] 8 [(0, true), (1, true), (2, true), (3, true), (4, true), (5, true), (6, true), (7, true)] (by kernel_rfl) (by kernel_rfl) ?_
                  iterate 8 (refine wpSD_q (by rfl) (fun _ _ _ => trivial) (fun K hK => ?_); go_simp; refine hK _ ?_; clear hK K)
                  refine wpSD_nil ?_
                  intro W6 x6
                  have HX6 := Lib.hid x6
                  have k0 := x6.cell_some HKF.out.1
                  have kf := x6.frozen HKF.out.1 HKF.out.2
                  have lk := cell_lt k0
                  clear x6 y0 s0 l0
                  simp only [List.drop_succ_cons, List.drop_zero]
                  gi_wp2
                  go_wp2_with fail
                  go_roundw
                  case rel =>
                    have h1 := (HBQ.out.ext HX6.out).setCell (r * 3 + k) (.bool bt)
                    rw [HBT.out, scells_bit hr5 hk3] at h1
                    rw [HBT.out]
                    exact ⟨k + 1, by omega, by go_num, h1, (HXQ.out.trans HX6.out).setCell (p := ⟨gb, r * 3 + k, none⟩) (by rw [HGB.out]; exact Nat.le_refl _) _⟩
                  case measure => simp [intOf]; omega
            · obtain rfl : k = 3 := by omega
              clear hb hxb
              go_wp2_with fail
              go_roundw
              case rel => exact ⟨r + 1, by omega, by go_num, HBK.out, HXK.out⟩
              case measure => simp [intOf]; omega
        · obtain rfl : r = 5 := by omega
          have hbg : BoxAt gb (gcells N 15) 112 wr := by rw [← scells_all]; exact hb
          have g0 := hbg.cell (i := 0) (gcells_at (n := N) (m := 15) (c := 0) (by decide))
          have g1 := hbg.cell (i := 1) (gcells_at (n := N) (m := 15) (c := 1) (by decide))
          have g2 := hbg.cell (i := 2) (gcells_at (n := N) (m := 15) (c := 2) (by decide))
          have g3 := hbg.cell (i := 3) (gcells_at (n := N) (m := 15) (c := 3) (by decide))
          have g4 := hbg.cell (i := 4) (gcells_at (n := N) (m := 15) (c := 4) (by decide))
          have g5 := hbg.cell (i := 5) (gcells_at (n := N) (m := 15) (c := 5) (by decide))
          have g6 := hbg.cell (i := 6) (gcells_at (n := N) (m := 15) (c := 6) (by decide))
          have g7 := hbg.cell (i := 7) (gcells_at (n := N) (m := 15) (c := 7) (by decide))
          have g8 := hbg.cell (i := 8) (gcells_at (n := N) (m := 15) (c := 8) (by decide))
          have g9 := hbg.cell (i := 9) (gcells_at (n := N) (m := 15) (c := 9) (by decide))
          have g10 := hbg.cell (i := 10) (gcells_at (n := N) (m := 15) (c := 10) (by decide))
          have g11 := hbg.cell (i := 11) (gcells_at (n := N) (m := 15) (c := 11) (by decide))
          have g12 := hbg.cell (i := 12) (gcells_at (n := N) (m := 15) (c := 12) (by decide))
          have g13 := hbg.cell (i := 13) (gcells_at (n := N) (m := 15) (c := 13) (by decide))
          have g14 := hbg.cell (i := 14) (gcells_at (n := N) (m := 15) (c := 14) (by decide))
          have lg := cell_lt g0
          have HNU := Lib.hid (fun (W : World) => number_any N W (by rw [HN.out]; exact H15.out _ (List.getElem_mem hil)))
          obtain ⟨Av, kv, cv, rfl⟩ := own_shapeS HO.out
          clear hb hxb hbg
          go_wp2_with fail
          refine (HNU.out _).mono ?_
          rintro e W8 ⟨rfl, x8⟩
          have HX8 := Lib.hid (HX.out.trans (HXR.out.trans x8))
          have HO8 := Lib.hid (HO.out.ext (HXR.out.trans x8))
          clear x8 g0 g1 g2 g3 g4 g5 g6 g7 g8 g9 g10 g11 g12 g13 g14 lg
          go_wp2_with (at_builtin; refine EK.app (K := intK) (B := W3.heap.size) rfl (.tmp 82) (.tmp 85) rfl W8.heap.size 1 (N : Int) rfl rfl (fun ii u hu => cell_new hu) (HO8.out.ext ((Ext.refl W8).alloc _)) (Nat.le_trans HX8.out.bel.size ((Ext.refl W8).alloc _).bel.size) (by simp; omega) ?_; intro v' w3 o3 b3 _; obtain ⟨Av3, kv3, cv3, rfl⟩ := own_shapeS o3; have HO3 := Lib.hid o3; have HB3 := Lib.hid b3; clear o3 b3)
          go_roundw
          case rel => exact ⟨i + 1, by omega, by go_num, by rw [List.take_succ_eq_append_getElem hil, List.map_append, ← HN.out]; exact HO3.out, (HX8.out.alloc _).below HB3.out (Nat.le_refl _)⟩
          case measure => simp [intOf]; omega
    · obtain rfl : nn = i := by omega
      obtain ⟨Av, kv, cv, rfl⟩ := own_shapeS ho
      clear ho hx
      go_wp2_with fail
      go_ret2
      exact ⟨_, rfl, by have := HO.out; rw [HNN.out, List.take_length] at this; exact this.mono HX3.out.bel.size, HX3.out.trans HX.out⟩
end Go.Proofs.Ytkjgcmdabelohaa
