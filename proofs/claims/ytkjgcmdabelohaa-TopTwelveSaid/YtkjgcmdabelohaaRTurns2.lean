/- rosette.Period, Axes, Match and the reference's: what each call computes. Condition: slices read as lists. -/
import Derived.Test.YtkjgcmdabelohaaRTurns
namespace Go.Proofs.Ytkjgcmdabelohaa
open Go.RowKit

def periodV (zs : List Int) : Int := if checkB zs then periodOf zs else 0
theorem periodOf_def (zs : List Int) {m n : Nat} (hm : (matchL zs zs).length = m) (hn : zs.length = n) : periodOf zs = (n : Int) / (m : Int) := by
  rw [periodOf, hm, hn]; rfl

set_option maxRecDepth 100000 in
set_option maxHeartbeats 400000 in
theorem Period_any (v : Value) (zs : List Int) (w : World) (hv : IsI w v zs) :
    Calls Try.prog 67 #[v] w fun e w' => e = .returned (.tuple #[.int .i64 (periodV zs), .int .i64 (checkE zs)]) ∧ Ext w w' := by
  cases hc : checkB zs
  · have HE := Lib.hid (show checkE zs = 30 by rw [checkE, hc]; rfl)
    have HL := Lib.hid (show periodV zs = 0 by rw [periodV, hc]; rfl)
    have HC := Lib.hid (check_bad hc w hv)
    go_enter Try.func67, Try.ntmps67
    go_wp2_with (go_at_call 28; refine HC.out.mono ?_; rintro e w' ⟨rfl, rfl⟩)
    go_ret2
    exact ⟨by rw [HE.out, HL.out] <;> rfl, Ext.refl _⟩
  · obtain ⟨h3, h96, _⟩ := checkB_iff.1 hc
    have HE := Lib.hid (show checkE zs = 0 by rw [checkE, hc]; rfl)
    have HL := Lib.hid (show periodV zs = periodOf zs by rw [periodV, hc]; rfl)
    have HC := Lib.hid (check_good hc w hv)
    have HT' := Lib.hid (matches_any v v zs zs w hv hv (by omega) (by omega))
    obtain ⟨A, n, c, rfl, hc0, hr, hn⟩ := hv.open_
    have HN := Lib.hid hr.len
    have hP := matchL_pos (zs := zs) (by omega)
    clear hr hv
    rw [HN.out] at h3 h96
    go_enter Try.func67, Try.ntmps67
    go_wp2_with (go_at_call 28; refine HC.out.mono ?_; rintro e w' ⟨rfl, rfl⟩)
    refine HT'.out.mono ?_
    rintro e w1 ⟨v1, rfl, hown, hx⟩
    obtain ⟨A1, m, c1, rfl, _, hr1, hm⟩ := hown.isI.open_
    have HM := Lib.hid hr1.len
    rw [hr1.len] at hP
    clear hr1 hown
    have hm0 : ¬ (m : Int) = 0 := by omega
    have hm1 : (1 : Int) ≤ m := by omega
    have hd1 : 0 ≤ (n : Int) / (m : Int) := Int.ediv_nonneg (by omega) (by omega)
    have hd2 : (n : Int) / (m : Int) ≤ n := Int.ediv_le_self _ (by omega)
    go_wp2_with fail
    go_ret2
    exact ⟨by rw [HE.out, HL.out, periodOf_def zs HM.out HN.out] <;> rfl, hx⟩

def axesL (zs : List Int) : List Int := if checkB zs then matchL (imgL zs) zs else []

def matchE (xs ys : List Int) : Int := if checkB xs && checkB ys then emptyE (matchL xs ys) else 30
def matchN (xs ys : List Int) : Int := if checkB xs && checkB ys then firstL (matchL xs ys) else 0

end Go.Proofs.Ytkjgcmdabelohaa
