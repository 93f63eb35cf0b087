/- rosette.Turned, Mirrored, matches, Period, Axes, Match and the reference's: what each call computes. Condition: slices read as lists. -/
import Derived.Test.YtkjgcmdabelohaaRTurned
import Derived.Test.YtkjgcmdabelohaaRPlain
namespace Go.Proofs.Ytkjgcmdabelohaa
open Go.RowKit

/-- A call's answer: a new slice of ints, and an error's number. -/
def RetOE (w : World) (zs : List Int) (er : Int) (e : Ending) (w' : World) : Prop := ∃ v, e = .returned (.tuple #[v, .int .i64 er]) ∧ OwnI w.heap.size w' v zs ∧ Ext w w'

theorem checkB_iff {zs : List Int} : checkB zs = true ↔ 3 ≤ zs.length ∧ zs.length ≤ 96 ∧ allB 0 10000 zs = true := by
  simp [checkB, and_assoc]
def turnedL (zs : List Int) (a : Int) : List Int := if checkB zs then mvL zs a else []
def mirroredL (zs : List Int) : List Int := if checkB zs then imgL zs else []

theorem check_good {zs : List Int} (h : checkB zs = true) {v : Value} (w : World) (hv : IsI w v zs) : Calls Try.prog 28 #[v] w fun e w' => e = .returned (.int .i64 0) ∧ w = w' := by
  have := check_any v zs w hv
  rwa [checkE, if_pos h] at this
theorem check_bad {zs : List Int} (h : checkB zs = false) {v : Value} (w : World) (hv : IsI w v zs) : Calls Try.prog 28 #[v] w fun e w' => e = .returned (.int .i64 30) ∧ w = w' := by
  have := check_any v zs w hv
  rwa [checkE, if_neg (by rw [h]; decide)] at this
set_option maxHeartbeats 400000 in
theorem Turned_any (v : Value) (zs : List Int) (x : Int) (w : World) (hv : IsI w v zs) :
    Calls Try.prog 55 #[v, .int .i64 x] w (RetOE w (turnedL zs x) (checkE zs)) := by
  cases hc : checkB zs
  · have HE := Lib.hid (show checkE zs = 30 by rw [checkE, hc]; rfl)
    have HL := Lib.hid (show turnedL zs x = [] by rw [turnedL, hc]; rfl)
    have HC := Lib.hid (check_bad hc w hv)
    go_enter Try.func55, Try.ntmps55
    go_wp2_with (go_at_call 28; refine HC.out.mono ?_; rintro e w' ⟨rfl, rfl⟩)
    go_ret2
    exact ⟨_, by rw [HE.out] <;> rfl, by rw [HL.out]; exact OwnI.nil _ _, Ext.refl _⟩
  · obtain ⟨h3, h96, _⟩ := checkB_iff.1 hc
    have HE := Lib.hid (show checkE zs = 0 by rw [checkE, hc]; rfl)
    have HL := Lib.hid (show turnedL zs x = mvL zs x by rw [turnedL, hc]; rfl)
    have HC := Lib.hid (check_good hc w hv)
    obtain ⟨j, hj, hjn⟩ := emod_nat x (n := zs.length) (by omega)
    have HT := turned_any v zs j w hv hjn (by omega)
    rw [← hj, mvL_emod, hj] at HT
    have HA := around_any x zs.length w (by omega) (by omega)
    rw [hj] at HA
    have HT' := Lib.hid HT
    have HA' := Lib.hid HA
    clear HT HA hj
    obtain ⟨A, n, c, rfl, hc0, hr, hn⟩ := hv.open_
    rw [hr.len] at HA'
    clear hr hv
    go_enter Try.func55, Try.ntmps55
    go_wp2_with (first
      | (go_at_call 28; refine HC.out.mono ?_; rintro e w' ⟨rfl, rfl⟩)
      | (go_at_call 86; refine HA'.out.mono ?_; rintro e w' ⟨rfl, rfl⟩)
      | (go_at_call 85; refine HT'.out.mono ?_; rintro e w' ⟨v1, rfl, hown, hx⟩))
    go_ret2
    exact ⟨_, by rw [HE.out] <;> rfl, by rw [HL.out]; exact hown, hx⟩

set_option maxRecDepth 100000 in
set_option maxHeartbeats 1000000 in
theorem matches_any (u v : Value) (xs ys : List Int) (w : World) (hu : IsI w u xs) (hv : IsI w v ys) (hn1 : 1 ≤ xs.length) (hz : xs.length ≤ 1000) :
    Calls Try.prog 99 #[u, v] w (RetO w (matchL xs ys)) := by
  have HU := Lib.hid hu
  have HV := Lib.hid hv
  obtain ⟨A, n, c, rfl, hc0, hr, hn⟩ := hu.open_
  have HL := Lib.hid hr.len
  rw [hr.len] at hn1 hz
  clear hr hu hv
  go_enter Try.func99, Try.ntmps99
  go_wp2
  go_loopw [9, 5, 6] (fun i s _ wr => ∃ k : Nat, k ≤ n ∧ i = .int .i64 k ∧ OwnI w.heap.size wr s (matchTo xs ys k) ∧ Ext w wr) (fun i _ _ _ => n - (intOf i).toNat)
  case atStart => exact ⟨0, by omega, rfl, OwnI.nil _ _, Ext.refl _⟩
  case round =>
    obtain ⟨k, hk, rfl, hown, hx⟩ := hrel
    by_cases hlt : k < n
    · have HX := Lib.hid hx
      have HO := Lib.hid hown
      have HT := Lib.hid (turned_any _ xs k wr (HU.out.ext hx) (by rw [HL.out]; exact hlt) (by rw [HL.out]; exact hz))
      clear hx hown
      go_wp2_with (go_at_call 85; refine HT.out.mono ?_; rintro e w1 ⟨v1, rfl, hown1, hx1⟩)
      have HX1 := Lib.hid (HX.out.trans hx1)
      have HO1 := Lib.hid (HO.out.ext hx1)
      have HQ := Lib.hid (equal_any v1 v _ ys w1 hown1.isI (HV.out.ext HX1.out))
      clear hown1 hx1
      cases hm : (mvL xs k == ys)
      · rw [hm] at HQ
        go_wp2_with (go_at_call 108; refine HQ.out.mono ?_; rintro e w2 ⟨rfl, hx2⟩)
        go_roundw
        case rel => exact ⟨k + 1, by omega, by go_num, by rw [matchTo_succ, hm, if_neg (by decide), List.append_nil]; exact HO1.out.ext hx2, HX1.out.trans hx2⟩
        case measure => simp [intOf]; omega
      · rw [hm] at HQ
        refine HQ.out.mono ?_
        rintro e w2 ⟨rfl, hx2⟩
        have HX2 := Lib.hid (HX1.out.trans hx2)
        have HC := Lib.hid (cell_new0 w2 (.int .i64 k) 3)
        have HO2 := Lib.hid (HO1.out.ext (hx2.alloc (.cells #[.int .i64 k] 3)))
        have HB := Lib.hid (show w.heap.size ≤ (w2.alloc (.cells #[.int .i64 k] 3)).heap.size from (HX2.out.alloc _).bel.size)
        have HZ := Lib.hid (show (matchTo xs ys k).length ≤ 1000000000 from Nat.le_trans (matchTo_len _ _ _) (by omega))
        clear hx2
        go_wp2_with (at_builtin; refine app_one rfl _ _ rfl _ _ _ rfl rfl HC.out HO2.out HB.out HZ.out ?_; intro v' w3 hown3 hb3)
        go_roundw
        case rel => exact ⟨k + 1, by omega, by go_num, by rw [matchTo_succ, hm, if_pos rfl]; exact hown3, (HX2.out.alloc _).below hb3 (Nat.le_refl _)⟩
        case measure => simp [intOf]; omega
    · obtain rfl : k = n := by omega
      go_wp2
      go_ret
      exact ⟨_, rfl, by rw [matchL, HL.out]; exact hown, hx⟩
end Go.Proofs.Ytkjgcmdabelohaa
