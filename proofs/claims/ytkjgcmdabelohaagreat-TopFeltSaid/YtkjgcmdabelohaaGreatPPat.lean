/- pattern.within, modulo; a program as a value; pattern.Check. Condition: the program's slices read as lists. -/
import Derived.Test.YtkjgcmdabelohaaGreatMRub
import Derived.Test.YtkjgcmdabelohaaGreatMNet
namespace Go.Proofs.YtkjgcmdabelohaaGreat
open Go.RowKit

theorem patWithin_any (n lo hi : Int) (w : World) : Calls Tryz.prog 25 #[.int .i64 n, .int .i64 lo, .int .i64 hi] w fun e w' => e = .returned (.bool (inB lo hi n)) ∧ w = w' := by
  by_cases h1 : lo ≤ n <;> by_cases h2 : n ≤ hi
  all_goals
    go_enter Tryz.func25, Tryz.ntmps25
    go_wp2
    go_ret
    exact ⟨ret_b (by simp [inB, h1, h2]), rfl⟩
theorem modulo_any (x n : Int) (w : World) (hn : 1 ≤ n) (hn2 : n ≤ 1000000) :
    Calls Tryz.prog 31 #[.int .i64 x, .int .i64 n] w fun e w' => e = .returned (.int .i64 (x % n)) ∧ w = w' := by
  obtain ⟨h1, h2, h3, h4⟩ := emod_of_tmod (x := x) hn
  have H3 := Lib.hid h3
  have H4 := Lib.hid h4
  clear h3 h4
  have hn0 : ¬ n = 0 := by omega
  by_cases h : x.tmod n < 0
  · go_enter Tryz.func31, Tryz.ntmps31
    go_wp2
    go_ret
    exact ⟨ret_i (H4.out h).symm, rfl⟩
  · go_enter Tryz.func31, Tryz.ntmps31
    go_wp2
    go_ret
    exact ⟨ret_i (H3.out (by omega)).symm, rfl⟩

/-- A program's numbers and lists. -/
structure PrT where
  ros : List Int
  rub : List Int
  start : Int
  throw : Int
  adv : Int
  sh : List Int
/-- The slices of a program. -/
structure PrV where
  r : Value
  b : Value
  s : Value
abbrev PrT.val (p : PrT) (v : PrV) : Value := .agg #[v.r, v.b, .int .i64 p.start, .int .i64 p.throw, .int .i64 p.adv, v.s]
abbrev PrT.cells (p : PrT) (v : PrV) : Array Value := #[v.r, v.b, .int .i64 p.start, .int .i64 p.throw, .int .i64 p.adv, v.s]
structure PrIs (w : World) (v : PrV) (p : PrT) : Prop where
  ros : IsI w v.r p.ros
  rub : IsI w v.b p.rub
  sh : IsI w v.s p.sh
theorem PrIs.ext {w w' : World} {v : PrV} {p : PrT} (h : PrIs w v p) (x : Ext w w') : PrIs w' v p := ⟨h.ros.ext x, h.rub.ext x, h.sh.ext x⟩
def fldB (p : PrT) : Bool := (((inB 0 10000 p.start && inB 1 16 p.throw) && inB (-1000) 1000 p.adv) && inB 1 12 p.sh.length) && allB 0 ((p.ros.length : Int) - 1) p.sh
def progE (p : PrT) : Int := if checkE p.ros = 0 then (if rubberE p.rub p.ros.length = 0 then (if fldB p = true then 0 else 40) else rubberE p.rub p.ros.length) else checkE p.ros
/-- A valid program. -/
structure Good (p : PrT) : Prop where
  ros : checkB p.ros = true
  rub : rubberB p.rub p.ros.length = true
  fld : fldB p = true
theorem progE_zero {p : PrT} : progE p = 0 ↔ Good p := by
  unfold progE
  constructor
  · intro h
    by_cases h1 : checkE p.ros = 0
    · rw [if_pos h1] at h
      by_cases h2 : rubberE p.rub p.ros.length = 0
      · rw [if_pos h2] at h
        by_cases h3 : fldB p = true
        · refine ⟨?_, ?_, h3⟩
          · unfold checkE at h1
            by_cases e : checkB p.ros = true
            · exact e
            · rw [if_neg e] at h1; omega
          · unfold rubberE at h2
            by_cases e : rubberB p.rub p.ros.length = true
            · exact e
            · rw [if_neg e] at h2; omega
        · rw [if_neg h3] at h; omega
      · rw [if_neg h2] at h; exact absurd h h2
    · rw [if_neg h1] at h; exact absurd h h1
  · rintro ⟨h1, h2, h3⟩
    rw [if_pos (by unfold checkE; rw [if_pos h1]), if_pos (by unfold rubberE; rw [if_pos h2]), if_pos h3]

/-- The closure of pattern.Check. -/
theorem patOdd_any (b : Nat) (A : Option Addr) (n c : Nat) (z : Int) (w : World) (hc : w.cell? ⟨b, 0, none⟩ = some (.slice A n c)) (hn : n ≤ 1000) :
    Calls Tryz.prog 24 #[.int .i64 z, .pointer (some ⟨b, 0, none⟩)] w fun e w' => e = .returned (.bool (!inB 0 ((n : Int) - 1) z)) ∧ w = w' := by
  have HW := Lib.hid (patWithin_any z 0 ((n : Int) - 1) w)
  have lb := cell_lt hc
  go_enter Tryz.func24, Tryz.ntmps24
  go_wp2_with (go_at_call 25; refine HW.out.mono ?_; rintro e w' ⟨rfl, rfl⟩)
  go_ret
  exact ⟨rfl, rfl⟩
set_option maxHeartbeats 1000000 in
theorem indexPat_any (b : Nat) (A0 : Option Addr) (n0 c0 : Nat) (A : Option Addr) (n c : Nat) (zs : List Int) (w : World) (hz : RowI w A n zs) (hc : w.cell? ⟨b, 0, none⟩ = some (.slice A0 n0 c0)) (hn0 : n0 ≤ 1000) :
    Calls Tryz.prog 48 #[.slice A n c, .func (.func 24) #[] #[.pointer (some ⟨b, 0, none⟩)]] w (IxPost 0 ((n0 : Int) - 1) zs n w) := by
  have hn := hz.max
  unfold maxLen at hn
  go_enter Tryz.func48, Tryz.ntmps48
  go_wp2
  go_loop [8, 5] (fun i _ => ∃ k : Nat, k ≤ n ∧ i = .int .i64 k ∧ Hid (∀ j, j < k → inB 0 ((n0 : Int) - 1) (zs[j]?.getD 0) = true)) (fun i _ => n - (intOf i).toNat)
  case atStart => exact ⟨0, by omega, rfl, fun j hj => absurd hj (by omega)⟩
  case round =>
    obtain ⟨k, hk, rfl, Ha⟩ := hrel
    by_cases hlt : k < n
    · obtain ⟨bb, o, rfl, _, hcc⟩ := hz.at_ k hlt
      have H0 := Lib.hid (patOdd_any b A0 n0 c0 (zs[k]?.getD 0) w hc hn0)
      cases hin : inB 0 ((n0 : Int) - 1) (zs[k]?.getD 0)
      · rw [hin] at H0
        go_wp2_with (go_at_call 24; refine H0.out.mono ?_; rintro e w' ⟨rfl, rfl⟩)
        go_ret
        exact ⟨k, rfl, ⟨fun _ => ⟨k, hlt, hin⟩, fun _ => by omega⟩, rfl⟩
      · rw [hin] at H0
        go_wp2_with (go_at_call 24; refine H0.out.mono ?_; rintro e w' ⟨rfl, rfl⟩)
        go_round
        case rel =>
          refine ⟨k + 1, by omega, by go_num, fun j hj => ?_⟩
          rcases (by omega : j < k ∨ j = k) with h | rfl
          · exact Ha.out j h
          · exact hin
        case measure => simp [intOf]; omega
    · go_wp2
      go_ret
      refine ⟨-1, rfl, ⟨fun h => absurd h (by omega), fun ⟨j, hj, h⟩ => ?_⟩, rfl⟩
      rw [Ha.out j (by omega)] at h
      cases h
theorem containsPat_any (b : Nat) (A0 : Option Addr) (n0 c0 : Nat) (A : Option Addr) (n c : Nat) (zs : List Int) (w : World) (hz : RowI w A n zs) (hc : w.cell? ⟨b, 0, none⟩ = some (.slice A0 n0 c0)) (hn0 : n0 ≤ 1000) :
    Calls Tryz.prog 26 #[.slice A n c, .func (.func 24) #[] #[.pointer (some ⟨b, 0, none⟩)]] w fun e w' => e = .returned (.bool (!allB 0 ((n0 : Int) - 1) zs)) ∧ w = w' := by
  have H := Lib.hid (indexPat_any b A0 n0 c0 A n c zs w hz hc hn0)
  go_enter Tryz.func26, Tryz.ntmps26
  go_wp2_with (go_at_call 48; refine H.out.mono ?_; rintro e w' ⟨i, rfl, hi0, rfl⟩)
  go_ret
  rw [← firstOut_all hz.len hi0]
  exact ⟨rfl, rfl⟩

set_option maxRecDepth 100000 in
set_option maxHeartbeats 4000000 in
theorem patCheck_any (p : PrT) (v : PrV) (w : World) (h : PrIs w v p) :
    Calls Tryz.prog 7 #[p.val v] w fun e w' => e = .returned (.int .i64 (progE p)) ∧ Ext w w' := by
  obtain ⟨rv, bv, sv⟩ := v
  obtain ⟨A, n, c, hrv, hA0, hr, hn⟩ := h.ros.open_
  obtain ⟨A2, n2, c2, hsv, hA2, hs, hn2⟩ := h.sh.open_
  simp only at hrv hsv
  subst hrv
  subst hsv
  obtain ⟨A1, n1, c1, hbv, hA1, hb, hn1⟩ := h.rub.open_
  simp only at hbv
  subst hbv
  have HN := Lib.hid hr.len
  have HN2 := Lib.hid hs.len
  unfold PrT.val
  have HCK := Lib.hid fun (W : World) (x : Ext w W) => (show Calls Tryz.prog 22 #[.slice A n c] W fun e w' => e = .returned (.int .i64 (checkE p.ros)) ∧ W = w' from check_any _ p.ros W (h.ros.ext x))
  have HRB := Lib.hid fun (W : World) (x : Ext w W) => (show Calls Tryz.prog 23 #[.slice A1 n1 c1, .int .i64 (n : Int)] W fun e w' => e = .returned (.int .i64 (rubberE p.rub n)) ∧ W = w' from checkRubber_any _ p.rub n W (h.rub.ext x))
  have HE := Lib.hid (show progE p = if checkE p.ros = 0 then (if rubberE p.rub n = 0 then (if fldB p = true then 0 else 40) else rubberE p.rub n) else checkE p.ros by rw [← HN.out]; rfl)
  have HR := Lib.hid hr
  have HS := Lib.hid hs
  have hal := (show Ext w (w.alloc (.cells #[.slice A n c, .slice A1 n1 c1, .int .i64 p.start, .int .i64 p.throw, .int .i64 p.adv, .slice A2 n2 c2] 24)) from (Ext.refl w).alloc _)
  have HX := Lib.hid hal
  by_cases e1 : checkE p.ros = 0
  · by_cases e2 : rubberE p.rub n = 0
    · have hn96 : n ≤ 96 := by
        unfold checkE at e1
        by_cases e : checkB p.ros = true
        · simp only [checkB, Bool.and_eq_true, decide_eq_true_eq] at e
          have := HN.out
          omega
        · rw [if_neg e] at e1; omega
      rw [e1] at HCK
      rw [e2] at HRB
      rw [if_pos e1, if_pos e2] at HE
      have HCT := Lib.hid (containsPat_any w.heap.size A n c A2 n2 c2 p.sh (w.alloc (.cells #[.slice A n c, .slice A1 n1 c1, .int .i64 p.start, .int .i64 p.throw, .int .i64 p.adv, .slice A2 n2 c2] 24)) (HS.out.ext hal) (by go_cell) (by omega))
      obtain ⟨q1, hq1⟩ : ∃ q, q = inB 0 10000 p.start := ⟨_, rfl⟩
      obtain ⟨q2, hq2⟩ : ∃ q, q = inB 1 16 p.throw := ⟨_, rfl⟩
      obtain ⟨q3, hq3⟩ : ∃ q, q = inB (-1000) 1000 p.adv := ⟨_, rfl⟩
      obtain ⟨q4, hq4⟩ : ∃ q, q = inB 1 12 (n2 : Int) := ⟨_, rfl⟩
      obtain ⟨q5, hq5⟩ : ∃ q, q = allB 0 ((n : Int) - 1) p.sh := ⟨_, rfl⟩
      have HF := Lib.hid (show fldB p = ((((q1 && q2) && q3) && q4) && q5) by
        unfold fldB
        rw [HN.out, HN2.out, ← hq1, ← hq2, ← hq3, ← hq4, ← hq5])
      rw [← hq5] at HCT
      have HW1 := Lib.hid fun W : World => (show Calls Tryz.prog 25 #[.int .i64 p.start, .int .i64 0, .int .i64 10000] W fun e w' => e = .returned (.bool q1) ∧ W = w' from hq1 ▸ patWithin_any _ _ _ W)
      have HW2 := Lib.hid fun W : World => (show Calls Tryz.prog 25 #[.int .i64 p.throw, .int .i64 1, .int .i64 16] W fun e w' => e = .returned (.bool q2) ∧ W = w' from hq2 ▸ patWithin_any _ _ _ W)
      have HW3 := Lib.hid fun W : World => (show Calls Tryz.prog 25 #[.int .i64 p.adv, .int .i64 (-1000), .int .i64 1000] W fun e w' => e = .returned (.bool q3) ∧ W = w' from hq3 ▸ patWithin_any _ _ _ W)
      have HW4 := Lib.hid fun W : World => (show Calls Tryz.prog 25 #[.int .i64 (n2 : Int), .int .i64 1, .int .i64 12] W fun e w' => e = .returned (.bool q4) ∧ W = w' from hq4 ▸ patWithin_any _ _ _ W)
      clear hal e1 e2 hq1 hq2 hq3 hq4 hq5 hr hs hb h hA0 hA1 hA2 hn96
      cases q1
      rotate_left
      cases q2
      rotate_left
      cases q3
      rotate_left
      cases q4
      rotate_left
      cases q5
      all_goals
        have HE2 := Lib.hid (HF.out ▸ HE.out)
        go_enter Tryz.func7, Tryz.ntmps7
        go_wp2_with (first
          | (go_at_call 22; refine (HCK.out _ HX.out).mono ?_; rintro e w' ⟨rfl, rfl⟩)
          | (go_at_call 23; refine (HRB.out _ HX.out).mono ?_; rintro e w' ⟨rfl, rfl⟩)
          | (go_at_call 25; (with_reducible refine (HW1.out _).mono ?_); rintro e w' ⟨rfl, rfl⟩)
          | (go_at_call 25; (with_reducible refine (HW2.out _).mono ?_); rintro e w' ⟨rfl, rfl⟩)
          | (go_at_call 25; (with_reducible refine (HW3.out _).mono ?_); rintro e w' ⟨rfl, rfl⟩)
          | (go_at_call 25; (with_reducible refine (HW4.out _).mono ?_); rintro e w' ⟨rfl, rfl⟩)
          | (go_at_call 26; refine HCT.out.mono ?_; rintro e w' ⟨rfl, rfl⟩))
        go_ret
        exact ⟨ret_i (by rw [HE2.out]; rfl), HX.out⟩
    · have hne : (rubberE p.rub n != 0) = true := by simpa using e2
      rw [e1] at HCK
      rw [if_pos e1, if_neg e2] at HE
      generalize rubberE p.rub n = er at *
      clear hal e1 e2 hr hs hb h hA0 hA1 hA2
      go_enter Tryz.func7, Tryz.ntmps7
      go_wp2_with (first
        | (go_at_call 22; refine (HCK.out _ HX.out).mono ?_; rintro e w' ⟨rfl, rfl⟩)
        | (go_at_call 23; refine (HRB.out _ HX.out).mono ?_; rintro e w' ⟨rfl, rfl⟩))
      go_ret
      exact ⟨ret_i (by rw [HE.out]), HX.out⟩
  · have hne : (checkE p.ros != 0) = true := by simpa using e1
    rw [if_neg e1] at HE
    generalize checkE p.ros = er at *
    clear hal e1 hr hs hb h hA0 hA1 hA2
    go_enter Tryz.func7, Tryz.ntmps7
    go_wp2_with (go_at_call 22; refine (HCK.out _ HX.out).mono ?_; rintro e w' ⟨rfl, rfl⟩)
    go_ret
    exact ⟨ret_i (by rw [HE.out]), HX.out⟩
end Go.Proofs.YtkjgcmdabelohaaGreat
