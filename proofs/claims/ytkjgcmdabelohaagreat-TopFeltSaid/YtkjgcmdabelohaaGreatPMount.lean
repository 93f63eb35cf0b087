/- pattern.mounted, phase: what a bench is. Condition: the program's slices read as lists. -/
import Derived.Test.YtkjgcmdabelohaaGreatPPat
import Derived.Test.YtkjgcmdabelohaaGreatMMade
import Derived.Test.YtkjgcmdabelohaaGreatMTurns
import Derived.Test.YtkjgcmdabelohaaGreatMAcc
import Derived.Deep.Cut
namespace Go.Proofs.YtkjgcmdabelohaaGreat
open Go.RowKit

/-- The sum of the first shifts. -/
def sumTo (sh : List Int) (k : Nat) : Int := (sh.take k).sum
theorem sumTo_zero (sh : List Int) : sumTo sh 0 = 0 := rfl
theorem sumTo_succ {sh : List Int} {k : Nat} (h : k < sh.length) : sumTo sh (k + 1) = sumTo sh k + sh[k]?.getD 0 := by
  unfold sumTo
  rw [List.take_succ_eq_append_getElem h, List.sum_append, List.getElem?_eq_getElem h]
  simp
theorem sumTo_bd {sh : List Int} {B : Int} (hB : 0 ≤ B) (h : ∀ i : Nat, 0 ≤ sh[i]?.getD 0 ∧ sh[i]?.getD 0 ≤ B) : ∀ k : Nat, 0 ≤ sumTo sh k ∧ sumTo sh k ≤ B * k
  | 0 => by simp [sumTo_zero]
  | k + 1 => by
    have ih := sumTo_bd hB h k
    by_cases hk : k < sh.length
    · rw [sumTo_succ hk]
      have := h k
      rw [Int.natCast_add, Int.mul_add]
      omega
    · have e : sumTo sh (k + 1) = sumTo sh k := by
        unfold sumTo
        rw [List.take_of_length_le (by omega), List.take_of_length_le (by omega)]
      rw [e, Int.natCast_add, Int.mul_add]
      omega
def sumV (sh : List Int) (m k : Nat) : Value := .int .i64 (if k ≤ m then sumTo sh k else 0)
def benchC (p : PrT) (v : PrV) (lv : Value) (per : Int) (m : Nat) : Array Value :=
  ([v.r, v.b, .int .i64 p.start, .int .i64 p.throw, .int .i64 p.adv, v.s, lv, .int .i64 p.ros.length, .int .i64 p.sh.length, .int .i64 per] ++ (List.range 13).map (sumV p.sh m)).toArray
theorem benchC_sum {p : PrT} {v : PrV} {lv : Value} {per : Int} {m k : Nat} (h : k < 13) : (benchC p v lv per m).toList[10 + k]? = some (sumV p.sh m k) := by
  unfold benchC
  rw [List.toList_toArray, List.getElem?_append_right (by simp), List.length_cons]
  simp [h]
theorem benchC_zero (p : PrT) (v : PrV) (lv : Value) (per : Int) : benchC p v lv per 0 = #[v.r, v.b, .int .i64 p.start, .int .i64 p.throw, .int .i64 p.adv, v.s, lv, .int .i64 p.ros.length, .int .i64 p.sh.length, .int .i64 per,
    .int .i64 0, .int .i64 0, .int .i64 0, .int .i64 0, .int .i64 0, .int .i64 0, .int .i64 0, .int .i64 0, .int .i64 0, .int .i64 0, .int .i64 0, .int .i64 0, .int .i64 0] := by
  unfold benchC
  simp [List.range, List.range.loop, sumV, sumTo_zero]
theorem benchC_step {p : PrT} {v : PrV} {lv : Value} {per : Int} {m : Nat} (h : m < 12) : (benchC p v lv per m).setIfInBounds (10 + (m + 1)) (.int .i64 (sumTo p.sh (m + 1))) = benchC p v lv per (m + 1) := by
  unfold benchC
  rw [List.setIfInBounds_toArray]
  congr 1
  rw [List.set_append_right _ _ (by simp)]
  congr 1
  apply List.ext_getElem
  · simp
  · intro k h1 h2
    rw [List.getElem_set]
    simp only [List.getElem_map, List.getElem_range]
    have hk : k < 13 := by simpa using h2
    simp only [List.length_cons, List.length_nil]
    split
    · rename_i e
      have : k = m + 1 := by omega
      subst this
      simp [sumV]
    · rename_i e
      simp only [sumV]
      congr 1
      by_cases hkm : k ≤ m
      · rw [if_pos hkm, if_pos (by omega)]
      · rw [if_neg hkm, if_neg (by omega)]
/-- A bench lies in block b. -/
structure BenchAt (b : Nat) (w : World) (p : PrT) (v : PrV) (lv : Value) : Prop where
  box : BoxAt b (benchC p v lv (periodV (liftL p.ros p.rub)) p.sh.length) 73 w
  pr : PrIs w v p
  lift : IsI w lv (liftL p.ros p.rub)
theorem BenchAt.ext {b : Nat} {w w' : World} {p : PrT} {v : PrV} {lv : Value} (h : BenchAt b w p v lv) (x : Ext w w') : BenchAt b w' p v lv := ⟨h.box.ext x, h.pr.ext x, h.lift.ext x⟩
/-- What a valid program's numbers are. -/
structure Nums (p : PrT) : Prop where
  n1 : 3 ≤ p.ros.length
  n2 : p.ros.length ≤ 96
  c1 : 1 ≤ p.sh.length
  c2 : p.sh.length ≤ 12
  s : 0 ≤ p.start ∧ p.start ≤ 10000
  t : 1 ≤ p.throw ∧ p.throw ≤ 16
  a : -1000 ≤ p.adv ∧ p.adv ≤ 1000
  sh : ∀ i : Nat, 0 ≤ p.sh[i]?.getD 0 ∧ p.sh[i]?.getD 0 ≤ (p.ros.length : Int) - 1
theorem Good.both {p : PrT} (h : Good p) : bothE p.ros p.rub = 0 := by
  unfold bothE rubberE
  rw [if_pos h.ros, if_pos h.rub]
theorem Good.fine {p : PrT} (h : Good p) : Fine p.ros p.rub := fine_iff.1 h.both
theorem Good.nums {p : PrT} (h : Good p) : Nums p := by
  have hf := h.fine
  have h1 := h.fld
  simp only [fldB, Bool.and_eq_true, inB_iff] at h1
  obtain ⟨⟨⟨⟨h2, h3⟩, h4⟩, h5⟩, h6⟩ := h1
  refine ⟨hf.lo, hf.hi, by omega, by omega, h2, h3, h4, fun i => ?_⟩
  unfold allB at h6
  rw [List.all_eq_true] at h6
  by_cases hi : i < p.sh.length
  · rw [List.getElem?_eq_getElem hi, Option.getD_some]
    exact inB_iff.1 (h6 _ (List.getElem_mem hi))
  · rw [List.getElem?_eq_none (by omega), Option.getD_none]
    have := hf.lo
    omega
theorem lift_check {f b : List Int} (h : Fine f b) : checkB (liftL f b) = true := by
  obtain ⟨h1, h2⟩ := fine_iff.2 h.lift |> fun e => (⟨e, e⟩ : bothE (liftL f b) b = 0 ∧ bothE (liftL f b) b = 0)
  unfold bothE at h1
  by_cases e : checkB (liftL f b) = true
  · exact e
  · rw [if_neg e] at h1; omega

set_option maxRecDepth 100000 in
set_option maxHeartbeats 4000000 in
/-- A program that is not valid is not mounted. -/
theorem mounted_bad (p : PrT) (v : PrV) (w : World) (h : PrIs w v p) (hb : ¬ progE p = 0) :
    Calls Tryz.prog 30 #[p.val v] w fun e w' => e = .returned (.tuple #[.pointer none, .int .i64 (progE p)]) ∧ Ext w w' := by
  obtain ⟨rv, bv, sv⟩ := v
  have HC := Lib.hid fun (W : World) (x : Ext w W) => patCheck_any p ⟨rv, bv, sv⟩ W (h.ext x)
  have hne : (progE p != 0) = true := by simpa using hb
  generalize progE p = er at *
  clear h hb
  unfold PrT.val at *
  go_enter Tryz.func30, Tryz.ntmps30
  go_wp2_with fail
  refine (HC.out _ ((Ext.refl _).alloc _)).mono ?_
  rintro e w1 ⟨rfl, x1⟩
  have HX := Lib.hid (((Ext.refl w).alloc _).trans x1)
  clear x1
  go_wp2_with fail
  go_ret2
  exact ⟨rfl, HX.out⟩
set_option maxRecDepth 100000 in
set_option maxHeartbeats 8000000 in
theorem mounted_good (p : PrT) (v : PrV) (w : World) (h : PrIs w v p) (hg : Good p) :
    Calls Tryz.prog 30 #[p.val v] w fun e w' => ∃ b lv, e = .returned (.tuple #[.pointer (some ⟨b, 0, none⟩), .int .i64 0]) ∧ w.heap.size ≤ b ∧ BenchAt b w' p v lv ∧ Ext w w' := by
  have hN := hg.nums
  obtain ⟨rv, bv, sv⟩ := v
  have HPR := Lib.hid h
  have HC := Lib.hid fun (W : World) (x : Ext w W) => (show Calls Tryz.prog 7 #[p.val ⟨rv, bv, sv⟩] W fun e w' => e = .returned (.int .i64 0) ∧ Ext W w' from by
    have := patCheck_any p ⟨rv, bv, sv⟩ W (h.ext x)
    rwa [progE_zero.2 hg] at this)
  have HL := Lib.hid fun (W : World) (x : Ext w W) => (show Calls Tryz.prog 55 #[rv, bv] W (RetOE W (liftL p.ros p.rub) 0) from by
    have := Lift_any rv bv p.ros p.rub W (h.ros.ext x) (h.rub.ext x)
    rwa [fOr, if_pos hg.both, hg.both] at this)
  have HP := Lib.hid fun (lv : Value) (W : World) (hl : IsI W lv (liftL p.ros p.rub)) => (show Calls Tryz.prog 56 #[lv] W fun e w' => e = .returned (.tuple #[.int .i64 (periodV (liftL p.ros p.rub)), .int .i64 0]) ∧ Ext W w' from by
    have := Period_any lv _ W hl
    rwa [show checkE (liftL p.ros p.rub) = 0 by unfold checkE; rw [if_pos (lift_check hg.fine)]] at this)
  have HLN := Lib.hid (show (liftL p.ros p.rub).length = p.ros.length from liftL_len _ _)
  obtain ⟨A, n, c, hrv, hA0, hr, hn⟩ := h.ros.open_
  obtain ⟨A1, n1, c1, hbv, hA1, hb, hn1⟩ := h.rub.open_
  obtain ⟨A2, n2, c2, hsv, hA2, hs, hn2⟩ := h.sh.open_
  simp only at hrv hbv hsv
  subst hrv
  subst hbv
  subst hsv
  have HN := Lib.hid hr.len
  have HN2 := Lib.hid hs.len
  have HS := Lib.hid hs
  have HNU := Lib.hid hN
  obtain ⟨per, hper⟩ : ∃ z, z = periodV (liftL p.ros p.rub) := ⟨_, rfl⟩
  rw [← hper] at HP
  have HPE := Lib.hid hper
  clear h hg hN hA0 hA1 hA2 hr hb hs hper
  unfold PrT.val at *
  go_enter Tryz.func30, Tryz.ntmps30
  go_wp2_with fail
  refine lay_calls (fun W => BoxAt w.heap.size (p.cells ⟨.slice A n c, .slice A1 n1 c1, .slice A2 n2 c2⟩) 24 W ∧ Ext w W) ⟨BoxAt.new w _ _, (Ext.refl _).alloc _⟩ ?_
  rintro W0 ⟨b0, x0⟩
  have HX0 := Lib.hid x0
  have HB0 := Lib.hid b0
  clear x0 b0
  refine (HC.out _ HX0.out).mono ?_
  rintro e W1 ⟨rfl, x1⟩
  have HX1 := Lib.hid (HX0.out.trans x1)
  have HB1 := Lib.hid (HB0.out.ext x1)
  have c0 := HB1.out.cell (i := 0) rfl
  have c1' := HB1.out.cell (i := 1) rfl
  have l0 := cell_lt c0
  clear x1
  go_wp2_with fail
  refine (HL.out _ HX1.out).mono ?_
  rintro e W2 ⟨lv, rfl, ol, x2⟩
  obtain ⟨AL, nl, cl, rfl, _, hrl, _⟩ := ol.isI.open_
  obtain rfl : n = nl := by rw [← hrl.len, HLN.out, HN.out]
  have HX2 := Lib.hid (HX1.out.trans x2)
  have HB2 := Lib.hid (HB1.out.ext x2)
  have HOL := Lib.hid ol.isI
  clear x2 ol hrl c0 c1' l0
  go_wp2_with fail
  refine (HP.out _ _ HOL.out).mono ?_
  rintro e W3 ⟨rfl, x3⟩
  have HX3 := Lib.hid (HX2.out.trans x3)
  have HB3 := Lib.hid (HB2.out.ext x3)
  have HOL3 := Lib.hid (HOL.out.ext x3)
  have c0 := HB3.out.cell (i := 0) rfl
  have c1' := HB3.out.cell (i := 1) rfl
  have c2' := HB3.out.cell (i := 2) rfl
  have c3 := HB3.out.cell (i := 3) rfl
  have c4 := HB3.out.cell (i := 4) rfl
  have c5 := HB3.out.cell (i := 5) rfl
  have l0 := cell_lt c0
  clear x3
  go_wp2_with fail
  have hz := benchC_zero p ⟨.slice A n c, .slice A1 n1 c1, .slice A2 n2 c2⟩ (.slice AL n cl) per
  rw [HN.out, HN2.out] at hz
  have HBZ := Lib.hid (BoxAt.new W3 (benchC p ⟨.slice A n c, .slice A1 n1 c1, .slice A2 n2 c2⟩ (.slice AL n cl) per 0) 73)
  rw [hz] at HBZ
  refine lay_wp (fun W => BoxAt W3.heap.size (benchC p ⟨.slice A n c, .slice A1 n1 c1, .slice A2 n2 c2⟩ (.slice AL n cl) per 0) 73 W ∧ Ext W3 W) ⟨by rw [hz]; exact HBZ.out, (Ext.refl _).alloc _⟩ ?_
  rintro W4 ⟨b4, x4⟩
  obtain ⟨bb, hbb⟩ : ∃ z, z = W3.heap.size := ⟨_, rfl⟩
  rw [← hbb] at b4 ⊢
  have HBB := Lib.hid hbb
  have HB4 := Lib.hid b4
  have HX4 := Lib.hid x4
  obtain ⟨m1, m2⟩ : n2 ≤ 12 ∧ n ≤ 96 := by
    have h1 := HNU.out.c2
    have h2 := HNU.out.n2
    have := HN.out
    have := HN2.out
    omega
  clear hz HBZ hbb b4 x4 c0 c1' c2' c3 c4 c5 l0
  go_loopw [48] (fun iv W => ∃ i : Nat, i ≤ n2 ∧ iv = .int .i64 (i : Int) ∧ BoxAt bb (benchC p ⟨.slice A n c, .slice A1 n1 c1, .slice A2 n2 c2⟩ (.slice AL n cl) per i) 73 W ∧ Ext W3 W) (fun iv _ => n2 - (intOf iv).toNat)
  case atStart => exact ⟨0, by omega, rfl, HB4.out, HX4.out⟩
  case round =>
    obtain ⟨i, hi, rfl, hb, hx⟩ := hrel
    have HB := Lib.hid hb
    have HX := Lib.hid hx
    by_cases hlt : i < n2
    · have hii : (i : Int) < (n2 : Int) := by omega
      have i13 : (i : Int) < 13 := by omega
      have i14 : (i : Int) + 1 < 13 := by omega
      have i0 : (0 : Int) ≤ (i : Int) + 1 := by omega
      have i15 : IntKind.i64.wrap ((i : Int) + 1) = (i : Int) + 1 := IntWalk.i64_in _ (by omega)
      have i16 : ((i : Int) + 1).toNat = i + 1 := by omega
      obtain ⟨b2, o2, rfl, _, s0⟩ := HS.out.at_ i hlt
      replace s0 := (HX3.out.trans hx).cell_some s0
      have ls := cell_lt s0
      have c10 : wr.cell? ⟨bb, 10 + i, none⟩ = some (.int .i64 (sumTo p.sh i)) := by
        have := hb.cell (benchC_sum (p := p) (k := i) (m := i) (by omega))
        simpa [sumV] using this
      have c11 : wr.cell? ⟨bb, 10 + (i + 1), none⟩ = some (.int .i64 0) := by
        have := hb.cell (benchC_sum (p := p) (k := i + 1) (m := i) (by omega))
        rw [sumV, if_neg (by omega)] at this
        exact this
      have f11 := frozen_of_row _ _ (10 + (i + 1)) _ _ hb
      have lb := cell_lt c10
      have hsb := sumTo_bd (sh := p.sh) (B := 95) (by omega) (fun j => by have := HNU.out.sh j; have := HNU.out.n2; omega) i
      have hst := HNU.out.sh i
      have HSS := Lib.hid (sumTo_succ (sh := p.sh) (k := i) (by rw [HN2.out]; exact hlt))
      obtain ⟨sm, hsm⟩ : ∃ z, z = sumTo p.sh i := ⟨_, rfl⟩
      obtain ⟨si, hsi⟩ : ∃ z, z = p.sh[i]?.getD 0 := ⟨_, rfl⟩
      rw [← hsm] at c10 hsb HSS
      rw [← hsi] at s0 hst HSS
      have hN := HN.out
      obtain ⟨e1, e2⟩ := hsb
      obtain ⟨e3, e4⟩ := hst
      rw [hN] at e4
      have HCF := Lib.hid (And.intro c11 f11)
      have q1 := But.cells (D := []) c10 (by simp)
      clear hb hx hsm hsi hN
      go_wp2_with fail
      refine (wpIn_wide (n := 3)).1 ?_
      refine wpIn_region_steps [] 14 [(0, true), (1, true), (2, true), (3, true), (4, true), (5, true), (6, true), (7, true), (8, true), (9, true), (10, true), (11, true), (12, true), (13, true)] (by kernel_rfl) (by kernel_rfl) ?_
      iterate 14 (refine wpSD_q (by rfl) (fun _ _ _ => trivial) (fun K hK => ?_); go_simp; refine hK _ ?_; clear hK K)
      refine wpSD_nil ?_
      intro W6 x6
      have HX6 := Lib.hid x6
      replace c11 := x6.cell_some HCF.out.1
      replace f11 := x6.frozen HCF.out.1 HCF.out.2
      replace lb := cell_lt c11
      clear x6 q1 c10
      simp only [List.drop_succ_cons, List.drop_zero]
      gi_wp2
      go_wp2_with fail
      go_roundw
      case rel =>
        have h1 := (HB.out.ext HX6.out).setCell (10 + (i + 1)) (.int .i64 (sm + si))
        rw [← HSS.out, benchC_step (by omega)] at h1
        rw [← HSS.out]
        exact ⟨i + 1, by omega, by go_num, h1, (HX.out.trans HX6.out).setCell (p := ⟨bb, 10 + (i + 1), none⟩) (by rw [HBB.out]; exact Nat.le_refl _) _⟩
      case measure => simp [intOf]; omega
    · obtain rfl : n2 = i := by omega
      have HFIN := Lib.hid (show BenchAt bb wr p ⟨.slice A n c, .slice A1 n1 c1, .slice A2 n2 c2⟩ (.slice AL n cl) from ⟨by rw [HN2.out, ← HPE.out]; exact hb, HPR.out.ext (HX3.out.trans hx), HOL3.out.ext hx⟩)
      clear hb hx
      go_wp2_with fail
      go_ret2
      exact ⟨bb, _, rfl, by rw [HBB.out]; exact HX3.out.bel.size, HFIN.out, HX3.out.trans HX.out⟩
end Go.Proofs.YtkjgcmdabelohaaGreat
