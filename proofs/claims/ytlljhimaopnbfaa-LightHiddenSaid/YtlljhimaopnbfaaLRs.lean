/- The reference's surfaces: what each call computes. Condition: the slice reads as a list. -/
import Derived.Test.YtlljhimaopnbfaaLFac
import Derived.Test.YtlljhimaopnbfaaLRef
namespace Go.Proofs.Ytlljhimaopnbfaa
open Go.RowKit

set_option maxRecDepth 100000 in
set_option maxHeartbeats 4000000 in
theorem refSurface_any (W H P : Int) (hv : Value) (hs : List Int) (w : World) (hI : intK.Is w hv hs) :
    Calls Try.prog 74 #[surfV W H P hv] w fun e w' => e = .returned (.bool (surfB W H P hs)) ∧ Ext w w' := by
  have hl := hI.len
  unfold maxLen at hl
  have HII := Lib.hid (intK_isI hI)
  have HS := Lib.hid (show surfB W H P hs = (inB 2 24 W && inB 2 24 H && inB 1 100 P && decide ((hs.length : Int) = W * H) && allB (-100) 100 hs) from rfl)
  obtain ⟨A, c, rfl, _⟩ := hI
  obtain ⟨_, _, he, _, _, hr⟩ := HII.out
  cases he
  have HR := Lib.hid hr
  clear hr HII
  generalize hL : hs.length = L at *
  have HL := Lib.hid hL
  clear hL
  cases h1 : inB 2 24 W
  · go_enter Try.func74, Try.ntmps74
    go_wp2_with (go_at_call 67; (with_reducible refine (within_any _ _ _ _).mono ?_); rintro e _ ⟨rfl, rfl⟩)
    go_ret
    exact ⟨ret_b (by rw [HS.out, h1]; rfl), by (repeat' (first | with_reducible exact Ext.refl _ | with_reducible apply Ext.alloc | with_reducible apply Ext.drew | with_reducible apply Ext.drewN | with_reducible refine Ext.setCell ?_ ?_ _ | with_reducible apply Ext.step | with_reducible assumption | with_reducible exact Nat.le_refl _ | (simp; done) | (simp; omega)))⟩
  cases h2 : inB 2 24 H
  · go_enter Try.func74, Try.ntmps74
    go_wp2_with (go_at_call 67; (with_reducible refine (within_any _ _ _ _).mono ?_); rintro e _ ⟨rfl, rfl⟩)
    go_ret
    exact ⟨ret_b (by rw [HS.out, h1, h2]; rfl), by (repeat' (first | with_reducible exact Ext.refl _ | with_reducible apply Ext.alloc | with_reducible apply Ext.drew | with_reducible apply Ext.drewN | with_reducible refine Ext.setCell ?_ ?_ _ | with_reducible apply Ext.step | with_reducible assumption | with_reducible exact Nat.le_refl _ | (simp; done) | (simp; omega)))⟩
  cases h3 : inB 1 100 P
  · go_enter Try.func74, Try.ntmps74
    go_wp2_with (go_at_call 67; (with_reducible refine (within_any _ _ _ _).mono ?_); rintro e _ ⟨rfl, rfl⟩)
    go_ret
    exact ⟨ret_b (by rw [HS.out, h1, h2, h3]; rfl), by (repeat' (first | with_reducible exact Ext.refl _ | with_reducible apply Ext.alloc | with_reducible apply Ext.drew | with_reducible apply Ext.drewN | with_reducible refine Ext.setCell ?_ ?_ _ | with_reducible apply Ext.step | with_reducible assumption | with_reducible exact Nat.le_refl _ | (simp; done) | (simp; omega)))⟩
  obtain ⟨a1, a2⟩ := inB_iff.1 h1
  obtain ⟨b1, b2⟩ := inB_iff.1 h2
  obtain ⟨m1, m2⟩ := mul_bd (a := W) (b := H) (A := 24) (B := 24) (by omega) a2 (by omega) b2
  cases h4 : decide ((L : Int) = W * H)
  · have hne : ((L : Int) != W * H) = true := by simpa using h4
    have h4' : ((L : Int) == W * H) = false := by simpa using h4
    have H4 := Lib.hid h4
    clear h4
    go_enter Try.func74, Try.ntmps74
    go_wp2_with (go_at_call 67; (with_reducible refine (within_any _ _ _ _).mono ?_); rintro e _ ⟨rfl, rfl⟩)
    go_ret
    exact ⟨ret_b (by rw [HS.out, h1, h2, h3, H4.out]; rfl), by (repeat' (first | with_reducible exact Ext.refl _ | with_reducible apply Ext.alloc | with_reducible apply Ext.drew | with_reducible apply Ext.drewN | with_reducible refine Ext.setCell ?_ ?_ _ | with_reducible apply Ext.step | with_reducible assumption | with_reducible exact Nat.le_refl _ | (simp; done) | (simp; omega)))⟩
  have hne : ((L : Int) != W * H) = false := by simpa using h4
  have h4' : ((L : Int) == W * H) = true := by simpa using h4
  have H4 := Lib.hid h4
  clear h4
  go_enter Try.func74, Try.ntmps74
  go_wp2_with (go_at_call 67; (with_reducible refine (within_any _ _ _ _).mono ?_); rintro e _ ⟨rfl, rfl⟩)
  refine lay_wp (fun W0 => Ext w W0 ∧ W0.cell? ⟨w.heap.size, 3, none⟩ = some (.slice A L c)) ⟨by (repeat' (first | with_reducible exact Ext.refl _ | with_reducible apply Ext.alloc | with_reducible apply Ext.drew | with_reducible apply Ext.drewN | with_reducible refine Ext.setCell ?_ ?_ _ | with_reducible apply Ext.step | with_reducible assumption | with_reducible exact Nat.le_refl _ | (simp; done) | (simp; omega))), by go_cell⟩ ?_
  rintro W0 ⟨X0, c3⟩
  go_loop [3] (fun i => ∃ k : Nat, k ≤ L ∧ i = .int .i64 k ∧ Hid (∀ j, j < k → inB (-100) 100 (hs[j]?.getD 0) = true)) (fun i => L - (intOf i).toNat)
  case atStart => exact ⟨0, by omega, rfl, fun j hj => absurd hj (by omega)⟩
  case round =>
    obtain ⟨k, hk, rfl, Ha⟩ := hrel
    by_cases hlt : k < L
    · obtain ⟨b, o, rfl, _, hc⟩ := HR.out.at_ k hlt
      have hc' := X0.cell_some hc
      have hb' := cell_lt hc'
      have H0 := Lib.hid (within_any (hs[k]?.getD 0) (-100) 100 W0)
      cases hin : inB (-100) 100 (hs[k]?.getD 0)
      · go_wp2_with (go_at_call 67; (with_reducible refine H0.out.mono ?_); rintro e w' ⟨rfl, rfl⟩)
        go_ret
        have hno : allB (-100) 100 hs = false := by
          simp only [allB, List.all_eq_false]
          have hlt' : k < hs.length := by rw [HL.out]; exact hlt
          exact ⟨hs[k], List.getElem_mem hlt', by simpa [hlt'] using hin⟩
        exact ⟨ret_b (by rw [HS.out, hno, Bool.and_false]), X0⟩
      · go_wp2_with (go_at_call 67; (with_reducible refine H0.out.mono ?_); rintro e w' ⟨rfl, rfl⟩)
        go_round
        case rel =>
          refine ⟨k + 1, by omega, by go_num, fun j hj => ?_⟩
          rcases (by omega : j < k ∨ j = k) with h | rfl
          · exact Ha.out j h
          · exact hin
        case measure => simp [intOf]; omega
    · obtain rfl : k = L := by omega
      go_wp2
      go_ret
      have hyes : allB (-100) 100 hs = true := by
        simp only [allB, List.all_eq_true]
        intro x hx
        obtain ⟨j, hj, rfl⟩ := List.getElem_of_mem hx
        have := Ha.out j (by rw [← HL.out]; exact hj)
        simpa [hj] using this
      exact ⟨ret_b (by rw [HS.out, h1, h2, h3, H4.out, hyes]; rfl), X0⟩

theorem refCheck_any (W H P : Int) (hv : Value) (hs : List Int) (w : World) (hI : intK.Is w hv hs) :
    Calls Try.prog 30 #[surfV W H P hv] w fun e w' => e = .returned (.int .i64 (surfE W H P hs)) ∧ Ext w w' := by
  have HI := Lib.hid fun (W0 : World) (x : Ext w W0) => refSurface_any W H P hv hs W0 (hI.ext x)
  obtain ⟨A, L, c, rfl, _⟩ := hI.open_
  clear hI
  cases hb : surfB W H P hs
  all_goals
    have HE := Lib.hid (show surfE W H P hs = _ by rw [surfE, hb])
    rw [hb] at HI
    go_enter Try.func30, Try.ntmps30
    go_wp2_with fail
    refine (HI.out _ (by (repeat' (first | with_reducible exact Ext.refl _ | with_reducible apply Ext.alloc | with_reducible apply Ext.drew | with_reducible apply Ext.drewN | with_reducible refine Ext.setCell ?_ ?_ _ | with_reducible apply Ext.step | with_reducible assumption | with_reducible exact Nat.le_refl _ | (simp; done) | (simp; omega))))).mono ?_
    rintro e _ ⟨rfl, hx⟩
    obtain ⟨δ, rfl⟩ : Ext (w.alloc (.cells #[.int .i64 W, .int .i64 H, .int .i64 P, .slice A L c] 37)) _ := Ext.trans (by (repeat' (first | with_reducible exact Ext.refl _ | with_reducible apply Ext.alloc | with_reducible apply Ext.drew | with_reducible apply Ext.drewN | with_reducible refine Ext.setCell ?_ ?_ _ | with_reducible apply Ext.step | with_reducible assumption | with_reducible exact Nat.le_refl _ | (simp; done) | (simp; omega)))) hx
    clear hx
    try (have hs0 := δ.lt (w.heap.size) (by first | (simp; done) | (simp; omega)))
    go_wp2_with fail
    go_ret
    exact ⟨by rw [HE.out]; rfl, by (repeat' (first | with_reducible exact Ext.refl _ | with_reducible apply Ext.alloc | with_reducible apply Ext.drew | with_reducible apply Ext.drewN | with_reducible refine Ext.setCell ?_ ?_ _ | with_reducible apply Ext.step | with_reducible assumption | with_reducible exact Nat.le_refl _ | (simp; done) | (simp; omega)))⟩

/-- A surface that is valid. -/
structure SurfOk (w : World) (hv : Value) (n m : Nat) (P : Int) (hs : List Int) : Prop where
  is : intK.Is w hv hs
  ok : surfB ((n : Int) + 1) ((m : Int) + 1) P hs = true

set_option maxRecDepth 100000 in
set_option maxHeartbeats 1000000 in
theorem height_any (n m : Nat) (P : Int) (hv : Value) (hs : List Int) (x y : Nat) (X Y : Int) (w : World) (hS : SurfOk w hv n m P hs) (hX : X = x) (hY : Y = y) (hx : x ≤ n) (hy : y ≤ m) :
    Calls Try.prog 100 #[surfV ((n : Int) + 1) ((m : Int) + 1) P hv, .int .i64 X, .int .i64 Y] w fun e w' => e = .returned (.int .i64 (hA hs (y * (n + 1) + x))) ∧ Ext w w' := by
  obtain ⟨⟨a1, a2⟩, ⟨b1, b2⟩, _, hlen, _⟩ := surfB_iff.1 hS.ok
  have hlen' : hs.length = (n + 1) * (m + 1) := by rw [← Int.natCast_inj]; simpa using hlen
  have hidx : y * (n + 1) + x < hs.length := by
    have h : y * (n + 1) + (n + 1) ≤ (m + 1) * (n + 1) := by
      rw [← Nat.succ_mul]
      exact Nat.mul_le_mul_right _ (by omega)
    rw [hlen', Nat.mul_comm (n + 1)]
    omega
  obtain ⟨b, o, c, rfl, hb, hcell⟩ := intK_at hS.is (by omega)
  have hmul : y * (n + 1) ≤ 24 * 24 := Nat.mul_le_mul (by omega) (by omega)
  obtain ⟨q, hq⟩ : ∃ q, q = y * (n + 1) := ⟨_, rfl⟩
  have e0 : (y : Int) * ((n : Int) + 1) = (q : Int) := by rw [hq]; simp
  rw [← hq] at hidx hmul ⊢
  obtain ⟨k, hk⟩ : ∃ k, k = q + x := ⟨_, rfl⟩
  have e1 : (q : Int) + (x : Int) = (k : Int) := by omega
  rw [← hk] at hidx ⊢
  have f0 := hcell k hidx
  generalize hs.length = L at *
  clear hcell hS hlen hlen' hq hk
  subst hX
  subst hY
  go_enter Try.func100, Try.ntmps100
  go_wp2
  go_ret
  exact ⟨rfl, by (repeat' (first | with_reducible exact Ext.refl _ | with_reducible apply Ext.alloc | with_reducible apply Ext.drew | with_reducible apply Ext.drewN | with_reducible refine Ext.setCell ?_ ?_ _ | with_reducible apply Ext.step | with_reducible assumption | with_reducible exact Nat.le_refl _ | (simp; done) | (simp; omega)))⟩
end Go.Proofs.Ytlljhimaopnbfaa
