/- rosette.Period, Axes, Match and the reference's: what each call computes. Condition: slices read as lists. -/
import Derived.Test.YtaaceadcnnfngaaRTurns
namespace Go.Proofs.Ytaaceadcnnfngaa
open Go.RowKit

def periodV (zs : List Int) : Int := if checkB zs then periodOf zs else 0
theorem periodOf_def (zs : List Int) {m n : Nat} (hm : (matchL zs zs).length = m) (hn : zs.length = n) : periodOf zs = (n : Int) / (m : Int) := by
  rw [periodOf, hm, hn]; rfl

set_option maxRecDepth 100000 in
set_option maxHeartbeats 400000 in
theorem Period_any (v : Value) (zs : List Int) (w : World) (hv : IsI w v zs) :
    Calls Try.prog 37 #[v] w fun e w' => e = .returned (.tuple #[.int .i64 (periodV zs), .int .i64 (checkE zs)]) ∧ Ext w w' := by
  cases hc : checkB zs
  · have HE := Lib.hid (show checkE zs = 30 by rw [checkE, hc]; rfl)
    have HL := Lib.hid (show periodV zs = 0 by rw [periodV, hc]; rfl)
    have HC := Lib.hid (check_bad hc w hv)
    go_enter Try.func37, Try.ntmps37
    go_wp2_with (go_at_call 27; refine HC.out.mono ?_; rintro e w' ⟨rfl, rfl⟩)
    go_ret2
    exact ⟨by rw [HE.out, HL.out] <;> rfl, Ext.refl _⟩
  · obtain ⟨h3, h96, _⟩ := checkB_iff.1 hc
    have HE := Lib.hid (show checkE zs = 0 by rw [checkE, hc]; rfl)
    have HL := Lib.hid (show periodV zs = periodOf zs by rw [periodV, hc]; rfl)
    have HC := Lib.hid (check_good hc w hv)
    have HT' := Lib.hid (matches_any v v zs zs w hv hv (by omega) (by omega))
    obtain ⟨A, n, c, rfl, hc0, hr, hn⟩ := hv.open_
    have HN := Lib.hid hr.len
    have hP := matchL_pos (zs := zs) (by omega)
    clear hr hv
    rw [HN.out] at h3 h96
    go_enter Try.func37, Try.ntmps37
    go_wp2_with (go_at_call 27; refine HC.out.mono ?_; rintro e w' ⟨rfl, rfl⟩)
    refine HT'.out.mono ?_
    rintro e w1 ⟨v1, rfl, hown, hx⟩
    obtain ⟨A1, m, c1, rfl, _, hr1, hm⟩ := hown.isI.open_
    have HM := Lib.hid hr1.len
    rw [hr1.len] at hP
    clear hr1 hown
    have hm0 : ¬ (m : Int) = 0 := by omega
    have hm1 : (1 : Int) ≤ m := by omega
    have hd1 : 0 ≤ (n : Int) / (m : Int) := Int.ediv_nonneg (by omega) (by omega)
    have hd2 : (n : Int) / (m : Int) ≤ n := Int.ediv_le_self _ (by omega)
    go_wp2_with fail
    go_ret2
    exact ⟨by rw [HE.out, HL.out, periodOf_def zs HM.out HN.out] <;> rfl, hx⟩

set_option maxRecDepth 100000 in
set_option maxHeartbeats 1000000 in
theorem least_any (v : Value) (zs : List Int) (w : World) (hv : IsI w v zs) (hn1 : 1 ≤ zs.length) (hz : zs.length ≤ 1000) :
    Calls Try.prog 78 #[v] w fun e w' => e = .returned (.int .i64 (periodOf zs)) ∧ Ext w w' := by
  have HV := Lib.hid hv
  clear hv
  obtain ⟨n, hn⟩ : ∃ n, zs.length = n := ⟨_, rfl⟩
  have HN := Lib.hid hn
  rw [hn] at hn1 hz
  clear hn
  go_enter Try.func78, Try.ntmps78
  go_wp2
  go_loopw [3] (fun i wr => ∃ k : Nat, 1 ≤ k ∧ k ≤ n ∧ i = .int .i64 k ∧ Hid (∀ s : Nat, 1 ≤ s → s < k → mvL zs s ≠ zs) ∧ Ext w wr) (fun i _ => n - (intOf i).toNat)
  case atStart => exact ⟨1, by omega, hn1, rfl, fun s h1 h2 => absurd h1 (by omega), Ext.refl _⟩
  case round =>
    obtain ⟨k, hk1, hk, rfl, Ha, hx⟩ := hrel
    have HX := Lib.hid hx
    have HT := Lib.hid (moved_any v zs k wr (HV.out.ext hx) (by rw [HN.out]; exact hn1) (by rw [HN.out]; omega))
    clear hx
    go_wp2_with (go_at_call 74; refine HT.out.mono ?_; rintro e w1 ⟨v1, rfl, hown1, hx1⟩)
    have HX1 := Lib.hid (HX.out.trans hx1)
    have HQ := Lib.hid (same_any v1 v _ zs w1 hown1.isI (HV.out.ext HX1.out))
    clear hown1 hx1
    cases hm : (mvL zs k == zs)
    · rw [hm] at HQ
      have hne : mvL zs k ≠ zs := by simpa using hm
      have HNE := Lib.hid hne
      have hkn : k ≠ n := by
        rintro rfl
        have := mvL_len_eq zs
        rw [HN.out] at this
        exact hne this
      clear hne
      go_wp2_with (go_at_call 71; refine HQ.out.mono ?_; rintro e w2 ⟨rfl, hx2⟩)
      go_roundw
      case rel =>
        refine ⟨k + 1, by omega, by omega, by go_num, fun s h1 h2 => ?_, HX1.out.trans hx2⟩
        rcases (by omega : s < k ∨ s = k) with h | rfl
        · exact Ha.out s h1 h
        · exact HNE.out
      case measure => simp [intOf]; omega
    · rw [hm] at HQ
      have he : mvL zs k = zs := by simpa using hm
      have HP := Lib.hid (show periodOf zs = (k : Int) by rw [periodOf, least_len ⟨hk1, he, Ha.out⟩ (by rw [HN.out]; exact hn1)])
      clear he
      go_wp2_with (go_at_call 71; refine HQ.out.mono ?_; rintro e w2 ⟨rfl, hx2⟩)
      go_ret
      exact ⟨by rw [HP.out] <;> rfl, HX1.out.trans hx2⟩

set_option maxRecDepth 100000 in
set_option maxHeartbeats 400000 in
theorem refPeriod_any (v : Value) (zs : List Int) (w : World) (hv : IsI w v zs) :
    Calls Try.prog 38 #[v] w fun e w' => e = .returned (.tuple #[.int .i64 (periodV zs), .int .i64 (checkE zs)]) ∧ Ext w w' := by
  cases hc : checkB zs
  · have HE := Lib.hid (show checkE zs = 30 by rw [checkE, hc]; rfl)
    have HL := Lib.hid (show periodV zs = 0 by rw [periodV, hc]; rfl)
    have HC := Lib.hid (refCheck_bad hc w hv)
    go_enter Try.func38, Try.ntmps38
    go_wp2_with (go_at_call 28; refine HC.out.mono ?_; rintro e w' ⟨rfl, rfl⟩)
    go_ret2
    exact ⟨by rw [HE.out, HL.out] <;> rfl, Ext.refl _⟩
  · obtain ⟨h3, h96, _⟩ := checkB_iff.1 hc
    have HE := Lib.hid (show checkE zs = 0 by rw [checkE, hc]; rfl)
    have HL := Lib.hid (show periodV zs = periodOf zs by rw [periodV, hc]; rfl)
    have HC := Lib.hid (refCheck_good hc w hv)
    have HT' := Lib.hid (least_any v zs w hv (by omega) (by omega))
    go_enter Try.func38, Try.ntmps38
    go_wp2_with (first
      | (go_at_call 28; refine HC.out.mono ?_; rintro e w' ⟨rfl, rfl⟩)
      | (go_at_call 78; refine HT'.out.mono ?_; rintro e w1 ⟨rfl, hx⟩))
    go_ret2
    exact ⟨by rw [HE.out, HL.out] <;> rfl, hx⟩

def axesL (zs : List Int) : List Int := if checkB zs then matchL (imgL zs) zs else []

set_option maxRecDepth 100000 in
set_option maxHeartbeats 400000 in
theorem Axes_any (v : Value) (zs : List Int) (w : World) (hv : IsI w v zs) :
    Calls Try.prog 39 #[v] w (RetOE w (axesL zs) (checkE zs)) := by
  cases hc : checkB zs
  · have HE := Lib.hid (show checkE zs = 30 by rw [checkE, hc]; rfl)
    have HL := Lib.hid (show axesL zs = [] by rw [axesL, hc]; rfl)
    have HC := Lib.hid (check_bad hc w hv)
    go_enter Try.func39, Try.ntmps39
    go_wp2_with (go_at_call 27; refine HC.out.mono ?_; rintro e w' ⟨rfl, rfl⟩)
    go_ret2
    exact ⟨_, by rw [HE.out] <;> rfl, by rw [HL.out]; exact OwnI.nil _ _, Ext.refl _⟩
  · obtain ⟨h3, h96, _⟩ := checkB_iff.1 hc
    have HE := Lib.hid (show checkE zs = 0 by rw [checkE, hc]; rfl)
    have HL := Lib.hid (show axesL zs = matchL (imgL zs) zs by rw [axesL, hc]; rfl)
    have HC := Lib.hid (check_good hc w hv)
    have HT' := Lib.hid (mirrored_any v zs w hv (by omega) (by omega))
    go_enter Try.func39, Try.ntmps39
    go_wp2_with (first
      | (go_at_call 27; refine HC.out.mono ?_; rintro e w' ⟨rfl, rfl⟩)
      | (go_at_call 75; refine HT'.out.mono ?_; rintro e w1 ⟨v1, rfl, hown, hx⟩))
    refine (matches_any v1 v (imgL zs) zs w1 hown.isI (hv.ext hx) (by rw [imgL_len]; omega) (by rw [imgL_len]; omega)).mono ?_
    rintro e w2 ⟨v2, rfl, hown2, hx2⟩
    have HO := Lib.hid (hown2.mono hx.bel.size)
    have HX := Lib.hid (hx.trans hx2)
    clear hown hown2 hx hx2
    go_wp2_with fail
    go_ret2
    exact ⟨_, by rw [HE.out] <;> rfl, by rw [HL.out]; exact HO.out, HX.out⟩

set_option maxRecDepth 100000 in
set_option maxHeartbeats 1000000 in
theorem refAxes_any (v : Value) (zs : List Int) (w : World) (hv : IsI w v zs) :
    Calls Try.prog 40 #[v] w (RetOE w (axesL zs) (checkE zs)) := by
  cases hc : checkB zs
  · have HE := Lib.hid (show checkE zs = 30 by rw [checkE, hc]; rfl)
    have HL := Lib.hid (show axesL zs = [] by rw [axesL, hc]; rfl)
    have HC := Lib.hid (refCheck_bad hc w hv)
    go_enter Try.func40, Try.ntmps40
    go_wp2_with (go_at_call 28; refine HC.out.mono ?_; rintro e w' ⟨rfl, rfl⟩)
    go_ret2
    exact ⟨_, by rw [HE.out] <;> rfl, by rw [HL.out]; exact OwnI.nil _ _, Ext.refl _⟩
  · obtain ⟨h3, h96, _⟩ := checkB_iff.1 hc
    have HE := Lib.hid (show checkE zs = 0 by rw [checkE, hc]; rfl)
    have HL := Lib.hid (show axesL zs = matchTo (imgL zs) zs zs.length by rw [axesL, hc, matchL, imgL_len]; rfl)
    have HC := Lib.hid (refCheck_good hc w hv)
    have HV := Lib.hid hv
    obtain ⟨A, n, c, rfl, hc0, hr, hn⟩ := hv.open_
    have HN := Lib.hid hr.len
    rw [HN.out] at h3 h96
    clear hr hv
    go_enter Try.func40, Try.ntmps40
    go_wp2_with (go_at_call 28; refine HC.out.mono ?_; rintro e w' ⟨rfl, rfl⟩)
    go_loopw [5, 6] (fun s i wr => ∃ k : Nat, k ≤ n ∧ i = .int .i64 k ∧ OwnI w.heap.size wr s (matchTo (imgL zs) zs k) ∧ Ext w wr) (fun _ i _ => n - (intOf i).toNat)
    case atStart => exact ⟨0, by omega, rfl, OwnI.nil _ _, Ext.refl _⟩
    case round =>
      obtain ⟨k, hk, rfl, hown, hx⟩ := hrel
      by_cases hlt : k < n
      · have HX := Lib.hid hx
        have HO := Lib.hid hown
        have HT := Lib.hid (image_any _ zs wr (HV.out.ext hx) (by rw [HN.out]; omega) (by rw [HN.out]; omega))
        clear hx hown
        go_wp2_with (go_at_call 76; refine HT.out.mono ?_; rintro e w1 ⟨v1, rfl, hown1, hx1⟩)
        have HX1 := Lib.hid (HX.out.trans hx1)
        have HO1 := Lib.hid (HO.out.ext hx1)
        have HM := Lib.hid (moved_any v1 _ k w1 hown1.isI (by rw [imgL_len, HN.out]; omega) (by rw [imgL_len, HN.out]; omega))
        clear hown1 hx1
        refine HM.out.mono ?_
        rintro e w2 ⟨v2, rfl, hown2, hx2⟩
        have HX2 := Lib.hid (HX1.out.trans hx2)
        have HO2 := Lib.hid (HO1.out.ext hx2)
        have HQ := Lib.hid (same_any v2 _ _ zs w2 hown2.isI (HV.out.ext HX2.out))
        clear hown2 hx2
        go_wp2_with fail
        cases hm : (mvL (imgL zs) k == zs)
        · rw [hm] at HQ
          refine HQ.out.mono ?_
          rintro e w3 ⟨rfl, hx3⟩
          go_wp2_with fail
          go_roundw
          case rel => exact ⟨k + 1, by omega, by go_num, by rw [matchTo_succ, hm, if_neg (by decide), List.append_nil]; exact HO2.out.ext hx3, HX2.out.trans hx3⟩
          case measure => simp [intOf]; omega
        · rw [hm] at HQ
          refine HQ.out.mono ?_
          rintro e w3 ⟨rfl, hx3⟩
          have HX3 := Lib.hid (HX2.out.trans hx3)
          have HC := Lib.hid (cell_new0 w3 (.int .i64 k) 3)
          have HO3 := Lib.hid (HO2.out.ext (hx3.alloc (.cells #[.int .i64 k] 3)))
          have HB := Lib.hid (show w.heap.size ≤ (w3.alloc (.cells #[.int .i64 k] 3)).heap.size from (HX3.out.alloc _).bel.size)
          have HZ := Lib.hid (show (matchTo (imgL zs) zs k).length ≤ 1000000000 from Nat.le_trans (matchTo_len _ _ _) (by omega))
          clear hx3
          go_wp2_with (at_builtin; refine app_one rfl _ _ rfl _ _ _ rfl rfl HC.out HO3.out HB.out HZ.out ?_; intro v' w4 hown4 hb4)
          go_roundw
          case rel => exact ⟨k + 1, by omega, by go_num, by rw [matchTo_succ, hm, if_pos rfl]; exact hown4, (HX3.out.alloc _).below hb4 (Nat.le_refl _)⟩
          case measure => simp [intOf]; omega
      · obtain rfl : k = n := by omega
        go_wp2
        go_ret2
        exact ⟨_, by rw [HE.out] <;> rfl, by rw [HL.out, HN.out]; exact hown, hx⟩

def matchE (xs ys : List Int) : Int := if checkB xs && checkB ys then emptyE (matchL xs ys) else 30
def matchN (xs ys : List Int) : Int := if checkB xs && checkB ys then firstL (matchL xs ys) else 0

set_option maxRecDepth 100000 in
set_option maxHeartbeats 1000000 in
theorem Match_any (u v : Value) (xs ys : List Int) (w : World) (hu : IsI w u xs) (hv : IsI w v ys) :
    Calls Try.prog 41 #[u, v] w fun e w' => e = .returned (.tuple #[.int .i64 (matchN xs ys), .int .i64 (matchE xs ys)]) ∧ Ext w w' := by
  cases hc : checkB xs
  · have HE := Lib.hid (show matchE xs ys = 30 by rw [matchE, hc]; rfl)
    have HL := Lib.hid (show matchN xs ys = 0 by rw [matchN, hc]; rfl)
    have HC := Lib.hid (check_bad hc w hu)
    go_enter Try.func41, Try.ntmps41
    go_wp2_with (go_at_call 27; refine HC.out.mono ?_; rintro e w' ⟨rfl, rfl⟩)
    go_ret2
    exact ⟨by rw [HE.out, HL.out] <;> rfl, Ext.refl _⟩
  have HC := Lib.hid (check_good hc w hu)
  cases hc2 : checkB ys
  · have HE := Lib.hid (show matchE xs ys = 30 by rw [matchE, hc, hc2]; rfl)
    have HL := Lib.hid (show matchN xs ys = 0 by rw [matchN, hc, hc2]; rfl)
    have HC2 := Lib.hid (check_bad hc2 w hv)
    go_enter Try.func41, Try.ntmps41
    go_wp2_with fail
    refine HC.out.mono ?_
    rintro e w' ⟨rfl, rfl⟩
    go_wp2_with fail
    refine HC2.out.mono ?_
    rintro e w' ⟨rfl, rfl⟩
    go_wp2_with fail
    go_ret2
    exact ⟨by rw [HE.out, HL.out] <;> rfl, Ext.refl _⟩
  have HC2 := Lib.hid (check_good hc2 w hv)
  have HE := Lib.hid (show matchE xs ys = emptyE (matchL xs ys) by rw [matchE, hc, hc2]; rfl)
  have HL := Lib.hid (show matchN xs ys = firstL (matchL xs ys) by rw [matchN, hc, hc2]; rfl)
  obtain ⟨h3, h96, _⟩ := checkB_iff.1 hc
  have HM := Lib.hid (matches_any u v xs ys w hu hv (by omega) (by omega))
  clear hu hv h3 h96
  go_enter Try.func41, Try.ntmps41
  go_wp2_with fail
  refine HC.out.mono ?_
  rintro e w' ⟨rfl, rfl⟩
  go_wp2_with fail
  refine HC2.out.mono ?_
  rintro e w' ⟨rfl, rfl⟩
  go_wp2_with fail
  refine HM.out.mono ?_
  rintro e w1 ⟨v1, rfl, hown, hx⟩
  generalize matchL xs ys = l at *
  obtain ⟨A1, m, c1, rfl, _, hr1, hm⟩ := hown.isI.open_
  clear hown
  cases l with
  | nil =>
    obtain rfl : m = 0 := hr1.len.symm
    clear hr1
    go_wp2_with fail
    go_ret2
    exact ⟨by rw [HE.out, HL.out] <;> rfl, hx⟩
  | cons a l =>
    have hm' : 1 ≤ m := by have := hr1.len; simp at this; omega
    obtain ⟨b, o, rfl, _, hcl⟩ := hr1.at_ 0 (by omega)
    simp only [List.getElem?_cons_zero, Option.getD_some, Nat.add_zero] at hcl
    have hm0 : ((m : Int) == 0) = false := by simp; omega
    have hm2 : (1 : Int) ≤ m := by omega
    clear hr1
    go_wp2_with fail
    go_ret2
    exact ⟨by rw [HE.out, HL.out] <;> rfl, hx⟩

set_option maxRecDepth 100000 in
set_option maxHeartbeats 1000000 in
theorem refMatch_any (u v : Value) (xs ys : List Int) (w : World) (hu : IsI w u xs) (hv : IsI w v ys) :
    Calls Try.prog 42 #[u, v] w fun e w' => e = .returned (.tuple #[.int .i64 (matchN xs ys), .int .i64 (matchE xs ys)]) ∧ Ext w w' := by
  cases hc : checkB xs
  · have HE := Lib.hid (show matchE xs ys = 30 by rw [matchE, hc]; rfl)
    have HL := Lib.hid (show matchN xs ys = 0 by rw [matchN, hc]; rfl)
    have HC := Lib.hid (refCheck_bad hc w hu)
    go_enter Try.func42, Try.ntmps42
    go_wp2_with (go_at_call 28; refine HC.out.mono ?_; rintro e w' ⟨rfl, rfl⟩)
    go_ret2
    exact ⟨by rw [HE.out, HL.out] <;> rfl, Ext.refl _⟩
  have HC := Lib.hid (refCheck_good hc w hu)
  cases hc2 : checkB ys
  · have HE := Lib.hid (show matchE xs ys = 30 by rw [matchE, hc, hc2]; rfl)
    have HL := Lib.hid (show matchN xs ys = 0 by rw [matchN, hc, hc2]; rfl)
    have HC2 := Lib.hid (refCheck_bad hc2 w hv)
    go_enter Try.func42, Try.ntmps42
    go_wp2_with fail
    refine HC.out.mono ?_
    rintro e w' ⟨rfl, rfl⟩
    go_wp2_with fail
    refine HC2.out.mono ?_
    rintro e w' ⟨rfl, rfl⟩
    go_wp2_with fail
    go_ret2
    exact ⟨by rw [HE.out, HL.out] <;> rfl, Ext.refl _⟩
  have HC2 := Lib.hid (refCheck_good hc2 w hv)
  have HE := Lib.hid (show matchE xs ys = emptyE (matchL xs ys) by rw [matchE, hc, hc2]; rfl)
  have HL := Lib.hid (show matchN xs ys = firstL (matchL xs ys) by rw [matchN, hc, hc2]; rfl)
  obtain ⟨h3, h96, _⟩ := checkB_iff.1 hc
  have HU := Lib.hid hu
  have HV := Lib.hid hv
  obtain ⟨A, n, c, rfl, hc0, hr, hn⟩ := hu.open_
  have HN := Lib.hid hr.len
  rw [HN.out] at h3 h96
  clear hr hu hv
  go_enter Try.func42, Try.ntmps42
  go_wp2_with fail
  refine HC.out.mono ?_
  rintro e w' ⟨rfl, rfl⟩
  go_wp2_with fail
  refine HC2.out.mono ?_
  rintro e w' ⟨rfl, rfl⟩
  go_wp2_with fail
  go_loopw [6] (fun i wr => ∃ k : Nat, k ≤ n ∧ i = .int .i64 k ∧ Hid (matchTo xs ys k = []) ∧ Ext w wr) (fun i _ => n - (intOf i).toNat)
  case atStart => exact ⟨0, by omega, rfl, Lib.hid rfl, Ext.refl _⟩
  case round =>
    obtain ⟨k, hk, rfl, Ha, hx⟩ := hrel
    by_cases hlt : k < n
    · have HX := Lib.hid hx
      have HT := Lib.hid (moved_any _ xs k wr (HU.out.ext hx) (by rw [HN.out]; omega) (by rw [HN.out]; omega))
      clear hx
      go_wp2_with (go_at_call 74; refine HT.out.mono ?_; rintro e w1 ⟨v1, rfl, hown1, hx1⟩)
      have HX1 := Lib.hid (HX.out.trans hx1)
      have HQ := Lib.hid (same_any v1 v _ ys w1 hown1.isI (HV.out.ext HX1.out))
      clear hown1 hx1
      cases hm : (mvL xs k == ys)
      · rw [hm] at HQ
        go_wp2_with (go_at_call 71; refine HQ.out.mono ?_; rintro e w2 ⟨rfl, hx2⟩)
        go_roundw
        case rel => exact ⟨k + 1, by omega, by go_num, Lib.hid (by rw [matchTo_succ, hm, Ha.out]; rfl), HX1.out.trans hx2⟩
        case measure => simp [intOf]; omega
      · rw [hm] at HQ
        have HP := Lib.hid (matchL_head (by rw [HN.out]; exact hlt) Ha.out hm)
        go_wp2_with (go_at_call 71; refine HQ.out.mono ?_; rintro e w2 ⟨rfl, hx2⟩)
        go_ret2
        obtain ⟨r, hr⟩ := HP.out
        exact ⟨by rw [HE.out, HL.out, hr] <;> rfl, HX1.out.trans hx2⟩
    · obtain rfl : k = n := by omega
      go_wp2
      go_ret2
      have he : matchL xs ys = [] := by rw [matchL, HN.out]; exact Ha.out
      exact ⟨by rw [HE.out, HL.out, he] <;> rfl, hx⟩
end Go.Proofs.Ytaaceadcnnfngaa
