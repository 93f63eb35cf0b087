/- What the outright laws share: valid, below, great of three. Condition: slices read as lists. -/
import Derived.Test.YtaaceadcnnfngaaRAlive
import Derived.Test.YtaaceadcnnfngaaRGal
namespace Go.Proofs.Ytaaceadcnnfngaa
open Go.RowKit

def validB (xs ys : List Int) : Bool := decide (bothE xs ys = 0)
set_option maxRecDepth 100000 in
set_option maxHeartbeats 400000 in
theorem valid_any (u v : Value) (xs ys : List Int) (w : World) (hu : IsI w u xs) (hv : IsI w v ys) :
    Calls Try.prog 48 #[u, v] w fun e w' => e = .returned (.bool (validB xs ys)) ∧ w = w' := by
  cases hc : checkB xs
  · have HE := Lib.hid (show validB xs ys = false by rw [validB, bothE, hc]; rfl)
    have HC := Lib.hid (check_bad hc w hu)
    go_enter Try.func48, Try.ntmps48
    go_wp2_with (go_at_call 27; refine HC.out.mono ?_; rintro e w' ⟨rfl, rfl⟩)
    go_ret
    exact ⟨ret_b HE.out.symm, rfl⟩
  · have HE := Lib.hid (show validB xs ys = decide (rubberE ys xs.length = 0) by rw [validB, bothE, hc]; rfl)
    have HC := Lib.hid (check_good hc w hu)
    have HR := Lib.hid (checkRubber_any v ys xs.length w hv)
    obtain ⟨A, n, c, rfl, hc0, hr, hn⟩ := hu.open_
    have HL := hr.len
    rw [HL] at HR HE
    clear hr
    cases hz : decide (rubberE ys n = 0)
    · have h1 : (rubberE ys n == 0) = false := by simpa using hz
      have HZ := Lib.hid hz
      generalize rubberE ys n = er at *
      clear hz
      go_enter Try.func48, Try.ntmps48
      go_wp2_with (first
        | (go_at_call 27; refine HC.out.mono ?_; rintro e w' ⟨rfl, rfl⟩)
        | (go_at_call 29; refine HR.out.mono ?_; rintro e w' ⟨rfl, rfl⟩))
      go_ret
      exact ⟨ret_b (by rw [HE.out, HZ.out]), rfl⟩
    · have h1 : (rubberE ys n == 0) = true := by simpa using hz
      have HZ := Lib.hid hz
      generalize rubberE ys n = er at *
      clear hz
      go_enter Try.func48, Try.ntmps48
      go_wp2_with (first
        | (go_at_call 27; refine HC.out.mono ?_; rintro e w' ⟨rfl, rfl⟩)
        | (go_at_call 29; refine HR.out.mono ?_; rintro e w' ⟨rfl, rfl⟩))
      go_ret
      exact ⟨ret_b (by rw [HE.out, HZ.out]), rfl⟩

set_option maxRecDepth 100000 in
set_option maxHeartbeats 1000000 in
theorem below_any (u v : Value) (xs ys : List Int) (w : World) (hu : IsI w u xs) (hv : IsI w v ys) :
    Calls Try.prog 49 #[u, v] w fun e w' => e = .returned (.bool (belowB xs ys)) ∧ Ext w w' := by
  obtain ⟨A, n, c, rfl, hc0, hr, hn⟩ := hu.open_
  obtain ⟨A', m, c', rfl, hd0, hs, hm⟩ := hv.open_
  have HL1 := Lib.hid hr.len
  have HL2 := Lib.hid hs.len
  have HR := Lib.hid hr
  have HS := Lib.hid hs
  clear hr hs hu hv
  by_cases hnm : n = m
  · subst hnm
    go_enter Try.func49, Try.ntmps49
    go_wp2
    go_loopw [13, 5] (fun i _ wr => ∃ k : Nat, k ≤ n ∧ i = .int .i64 k ∧ Ext w wr ∧ Hid (∀ j, j < k → xs[j]?.getD 0 ≤ ys[j]?.getD 0)) (fun i _ _ => n - (intOf i).toNat)
    case atStart => exact ⟨0, by omega, rfl, Ext.refl _, Lib.hid fun j hj => absurd hj (by omega)⟩
    case round =>
      obtain ⟨k, hk, rfl, hx, Ha⟩ := hrel
      by_cases hlt : k < n
      · have hdk : decide ((k : Int) < n) = true := by simp; omega
        obtain ⟨b, o, rfl, _, hc⟩ := HR.out.at_ k hlt
        obtain ⟨b', o', rfl, _, hc'⟩ := HS.out.at_ k hlt
        have hc1 := hx.cell_some hc
        have hc2 := hx.cell_some hc'
        have HX := Lib.hid hx
        clear hx hc hc'
        by_cases hle : ys[k]?.getD 0 < xs[k]?.getD 0
        · go_wp2
          go_quiet (fail)
          go_wp2
          go_ret
          refine ⟨ret_b ?_, HX.out.drewN _⟩
          symm
          rw [Bool.eq_false_iff]
          intro hb
          have := (belowB_iff.1 hb).2 k (by rw [HL1.out]; exact hlt)
          omega
        · go_wp2
          go_quiet (fail)
          go_wp2
          go_roundw
          case rel =>
            refine ⟨k + 1, by omega, by go_num, HX.out.drewN _, Lib.hid fun j hj => ?_⟩
            rcases (by omega : j < k ∨ j = k) with h | rfl
            · exact Ha.out j h
            · omega
          case measure => simp [intOf]; omega
      · obtain rfl : k = n := by omega
        go_wp2
        go_ret
        exact ⟨ret_b (belowB_of ⟨by rw [HL1.out, HL2.out], fun i hi => Ha.out i (by rw [← HL1.out]; exact hi)⟩).symm, hx⟩
  · have hd : ((n : Int) != (m : Int)) = true := by simp; omega
    go_enter Try.func49, Try.ntmps49
    go_wp2
    go_ret
    refine ⟨ret_b ?_, Ext.refl _⟩
    symm
    rw [Bool.eq_false_iff]
    intro hb
    have := (belowB_iff.1 hb).1
    rw [HL1.out, HL2.out] at this
    exact hnm this

def greatB3 (xs ys zs : List Int) : Bool := decide (120 < xs.length) || decide (120 < ys.length) || decide (120 < zs.length)
set_option maxRecDepth 100000 in
set_option maxHeartbeats 1000000 in
theorem great3_any (b c : Nat) (u v x : Value) (xs ys zs : List Int) (w : World) (h0 : w.cell? ⟨b, 0, none⟩ = some u) (h1 : w.cell? ⟨b, 1, none⟩ = some v) (h2 : w.cell? ⟨b, 2, none⟩ = some x) (hu : IsI w u xs) (hv : IsI w v ys) (hx : IsI w x zs) :
    Calls Try.prog 18 #[.slice (some ⟨b, 0, none⟩) 3 c] w fun e w' => e = .returned (.bool (greatB3 xs ys zs)) ∧ w = w' := by
  have HU := Lib.hid (Great_any u xs w hu)
  have HV := Lib.hid (Great_any v ys w hv)
  have HX := Lib.hid (Great_any x zs w hx)
  have HG := Lib.hid (show greatB3 xs ys zs = (decide (120 < xs.length) || decide (120 < ys.length) || decide (120 < zs.length)) from rfl)
  generalize decide (120 < xs.length) = p at *
  generalize decide (120 < ys.length) = q at *
  generalize decide (120 < zs.length) = r at *
  clear hu hv hx
  go_enter Try.func18, Try.ntmps18
  go_wp2_with fail
  refine wp_loop_rounds 4 ?_
  rw [rounds_succ]
  go_wp2_with fail
  refine HU.out.mono ?_
  rintro e _ ⟨rfl, rfl⟩
  cases p
  rotate_left
  · go_wp2_with fail
    go_ret
    exact ⟨by rw [HG.out] <;> rfl, rfl⟩
  go_wp2_with fail
  rw [rounds_succ]
  go_wp2_with fail
  refine HV.out.mono ?_
  rintro e _ ⟨rfl, rfl⟩
  cases q
  rotate_left
  · go_wp2_with fail
    go_ret
    exact ⟨by rw [HG.out] <;> rfl, rfl⟩
  go_wp2_with fail
  rw [rounds_succ]
  go_wp2_with fail
  refine HX.out.mono ?_
  rintro e _ ⟨rfl, rfl⟩
  cases r
  rotate_left
  · go_wp2_with fail
    go_ret
    exact ⟨by rw [HG.out] <;> rfl, rfl⟩
  go_wp2_with fail
  rw [rounds_succ]
  go_wp2_with fail
  go_ret
  exact ⟨by rw [HG.out] <;> rfl, rfl⟩
end Go.Proofs.Ytaaceadcnnfngaa
