/- RosetteMatched: the law's walk. Condition: slices read as lists. -/
import Derived.Test.YtaaceadcnnfngaaRTurnF
import Derived.Test.YtaaceadcnnfngaaRPer
namespace Go.Proofs.Ytaaceadcnnfngaa
open Go.RowKit

set_option maxRecDepth 100000 in
set_option maxHeartbeats 4000000 in
theorem lawMatched_any (u : Value) (f : List Int) (v : Value) (g : List Int) (s : Int) (w : World) (hu : IsI w u f) (hv : IsI w v g) :
    Calls Try.prog 13 #[u, v, .int .i64 s] w fun e w' => e = .returned (.bool true) ∧ Ext w w' := by
  have S0 := Lib.hid (((Has.nil w).snoc hu).snoc hv)
  have X0 := Lib.hid (Ext.refl w)
  obtain ⟨Au, nu, cu, rfl, _⟩ := hu.open_
  clear hu
  obtain ⟨Av, nv, cv, rfl, _⟩ := hv.open_
  clear hv
  go_enter Try.func13, Try.ntmps13
  go_wp2_with fail
  refine (alive_any w).mono ?_
  rintro e w1 ⟨rfl, x1⟩
  have S1 := Lib.hid (S0.out.ext x1)
  have X1 := Lib.hid (X0.out.trans x1)
  clear x1 S0 X0
  go_wp2_with fail
  refine lay_calls (fun W => Ext w1 W ∧ W.cell? ⟨w1.heap.size, 0, none⟩ = some (.slice Au nu cu) ∧ W.cell? ⟨w1.heap.size, 1, none⟩ = some (.slice Av nv cv)) ⟨by (repeat' (first | with_reducible exact Ext.refl _ | with_reducible apply Ext.alloc | with_reducible apply Ext.drew | with_reducible apply Ext.drewN | with_reducible refine Ext.setCell ?_ ?_ _ | with_reducible apply Ext.step | with_reducible assumption | with_reducible exact Nat.le_refl _ | (simp; done) | (simp; omega))), by go_cell, by go_cell⟩ ?_
  rintro w2 ⟨x2, h2_0, h2_1⟩
  have S2 := Lib.hid (S1.out.ext x2)
  have X2 := Lib.hid (X1.out.trans x2)
  clear x2 S1 X1
  refine (great2_any _ _ _ _ f g w2 h2_0 h2_1 (S2.out.get 0 rfl) (S2.out.get 1 rfl)).mono ?_
  rintro e _ ⟨rfl, rfl⟩
  clear h2_0 h2_1
  cases hgr : greatB f g
  rotate_left
  · go_wp2_with fail
    go_ret
    exact ⟨rfl, X2.out⟩
  have hgl : f.length ≤ 120 ∧ g.length ≤ 120 := by simp [greatB] at hgr; omega
  have HGL := Lib.hid hgl
  clear hgl hgr
  cases hc : checkB f
  · have HC := Lib.hid (check_bad hc w2 (S2.out.get 0 rfl))
    go_wp2_with fail
    refine HC.out.mono ?_
    rintro e _ ⟨rfl, rfl⟩
    go_wp2_with fail
    go_ret
    exact ⟨rfl, X2.out⟩
  have HC := Lib.hid (check_good hc w2 (S2.out.get 0 rfl))
  have HCH := Lib.hid hc
  obtain ⟨c3, c96, _⟩ := checkB_iff.1 hc
  obtain ⟨t, ht, htn⟩ := exists_least (zs := f) (by omega)
  have HT := Lib.hid ht
  have hp1 := ht.pos
  clear hc ht
  go_wp2_with fail
  refine HC.out.mono ?_
  rintro e _ ⟨rfl, rfl⟩
  have HNu := Lib.hid (show nu = f.length by have := S2.out.get 0 rfl; obtain ⟨_, _, he, _, _, _⟩ := this; cases he; rfl)
  have HNv := Lib.hid (show nv = g.length by have := S2.out.get 1 rfl; obtain ⟨_, _, he, _, _, _⟩ := this; cases he; rfl)
  have HTD := Lib.hid (show turnedL f s = mvL f s by rw [turnedL, HCH.out]; rfl)
  have HCE := Lib.hid (show checkE f = 0 by rw [checkE, HCH.out]; rfl)
  have HPV := Lib.hid (show periodV f = (t : Int) by rw [periodV, HCH.out, if_pos rfl]; exact HT.out.period (by omega))
  have HMT := Lib.hid (match_turned HCH.out HT.out s)
  go_wp2_with fail
  have HA := Lib.hid (Turned_any _ f s w2 (S2.out.get 0 rfl))
  rw [HTD.out, HCE.out] at HA
  refine (HA.out).mono ?_
  rintro e w3 ⟨v3, rfl, o3, x3⟩
  have S3 := Lib.hid ((S2.out.ext x3).snoc o3.isI)
  have X3 := Lib.hid (X2.out.trans x3)
  clear x3 S2 X2 o3
  clear HA
  go_wp2_with fail
  have HA := Lib.hid (Period_any _ f w3 (S3.out.get 0 rfl))
  rw [HPV.out, HCE.out] at HA
  refine (HA.out).mono ?_
  rintro e w4 ⟨rfl, x4⟩
  have S4 := Lib.hid (S3.out.ext x4)
  have X4 := Lib.hid (X3.out.trans x4)
  clear x4 S3 X3
  clear HA
  go_wp2_with fail
  have HA := Lib.hid (Match_any _ _ f (mvL f s) w4 (S4.out.get 0 rfl) (S4.out.get 2 rfl))
  rw [HMT.out.1, HMT.out.2] at HA
  refine (HA.out).mono ?_
  rintro e w5 ⟨rfl, x5⟩
  have S5 := Lib.hid (S4.out.ext x5)
  have X5 := Lib.hid (X4.out.trans x5)
  clear x5 S4 X4
  clear HA
  obtain ⟨q1, q2, q3, q4⟩ := emod_of_tmod (x := s) (n := (t : Int)) (by omega)
  have e0 := Int.emod_nonneg s (show (t : Int) ≠ 0 by omega)
  have e1 := Int.emod_lt_of_pos s (show (0 : Int) < t by omega)
  have ht0 : ¬ (t : Int) = 0 := by omega
  have HR : (s.tmod t + t).tmod t = s % (t : Int) := by
    rcases Int.lt_or_le (s.tmod t) 0 with h | h
    · rw [q4 h, Int.tmod_eq_emod_of_nonneg (by omega), Int.emod_eq_of_lt (by omega) (by omega)]
    · rw [q3 h, Int.tmod_eq_emod_of_nonneg (by omega), Int.add_emod_right, Int.emod_eq_of_lt (by omega) (by omega)]
  have HR2 : (s.tmod t + t) % (t : Int) = s % (t : Int) := by
    rw [Int.tmod_eq_emod_of_nonneg (by omega)] at HR
    exact HR
  obtain ⟨sm, hsm⟩ : ∃ sm, s % (t : Int) = sm := ⟨_, rfl⟩
  rw [hsm] at HR HR2 e0 e1 ⊢
  have htt : (t : Int) ≤ 1000 := by omega
  clear q3 q4 hsm
  go_wp2_with fail
  clear HR HR2
  have HMA := Lib.hid (Match_any _ _ f g w5 (S5.out.get 0 rfl) (S5.out.get 1 rfl))
  by_cases hE : matchE f g = 0
  · obtain ⟨k, hk1, hk2, hk3⟩ := match_found HCH.out HT.out hE
    rw [hk1, hE] at HMA
    have HK := Lib.hid hk3
    clear hk1 hk3 hE
    refine (HMA.out).mono ?_
    rintro e w6 ⟨rfl, x6⟩
    have S6 := Lib.hid (S5.out.ext x6)
    have X6 := Lib.hid (X5.out.trans x6)
    clear x6 S5 X5
    go_wp2_with fail
    refine (turn_any _ f k w6 (S6.out.get 0 rfl) (by omega) (by omega) (by omega)).mono ?_
    rintro e w7 ⟨v7, rfl, o7, x7⟩
    have S7 := Lib.hid ((S6.out.ext x7).snoc o7.isI)
    have X7 := Lib.hid (X6.out.trans x7)
    clear x7 S6 X6 o7
    rw [HK.out] at S7
    go_wp2_with fail
    refine (same_true (S7.out.get 3 rfl) (S7.out.get 1 rfl)).mono ?_
    rintro e w8 ⟨rfl, x8⟩
    have S8 := Lib.hid (S7.out.ext x8)
    have X8 := Lib.hid (X7.out.trans x8)
    clear x8 S7 X7
    go_wp2_with fail
    go_ret
    exact ⟨rfl, X8.out⟩
  · obtain ⟨hk1, hk2⟩ := match_lost HCH.out hE
    rw [hk1] at HMA
    have hne : (matchE f g != 0) = true := by simpa using hE
    have HK := Lib.hid hk2
    generalize matchE f g = er at *
    clear hk1 hk2 hE
    refine (HMA.out).mono ?_
    rintro e w6 ⟨rfl, x6⟩
    have S6 := Lib.hid (S5.out.ext x6)
    have X6 := Lib.hid (X5.out.trans x6)
    clear x6 S5 X5
    go_wp2_with fail
    go_loopw [85, 16] (fun i x wr => ∃ k : Nat, k ≤ nu ∧ i = .int .i64 k ∧ x = .bool false ∧ Ext w6 wr) (fun i _ _ => nu - (intOf i).toNat)
    case atStart => exact ⟨0, by omega, rfl, rfl, Ext.refl _⟩
    case round =>
      obtain ⟨k, hk, rfl, rfl, hx⟩ := hrel
      have HX := Lib.hid hx
      clear hx
      by_cases hlt : k < nu
      · have HS := Lib.hid (show (mvL f k == g) = false by simpa using HK.out k (by rw [← HNu.out]; exact hlt))
        have hfk : k ≤ f.length := by rw [← HNu.out]; omega
        go_wp2_with fail
        refine (turn_any _ f k wr ((S6.out.ext HX.out).get 0 rfl) hfk (by omega) (by omega)).mono ?_
        rintro e wa ⟨va, rfl, oa, xa⟩
        have HXA := Lib.hid (HX.out.trans xa)
        have OA := Lib.hid oa.isI
        clear xa oa
        go_wp2_with fail
        have HQ := Lib.hid (lawSame_any va _ (mvL f k) g wa OA.out ((S6.out.ext HXA.out).get 1 rfl))
        rw [HS.out] at HQ
        refine HQ.out.mono ?_
        rintro e wb ⟨rfl, xb⟩
        have HXB := Lib.hid (HXA.out.trans xb)
        clear xb
        go_wp2_with fail
        go_roundw
        case rel => exact ⟨k + 1, by omega, by go_num, rfl, HXB.out⟩
        case measure => simp [intOf]; omega
      · obtain rfl : k = nu := by omega
        go_wp2_with fail
        go_ret
        exact ⟨rfl, X6.out.trans HX.out⟩
theorem lawMatched_row (u : Value) (f : List Int) (v : Value) (g : List Int) (s : Int) (w : World) (hu : IsI w u f) (hv : IsI w v g) :
    Calls Try.prog 13 #[u, v, .int .i64 s] w fun e w' => e = .returned (.bool true) ∧ Ext w w' := lawMatched_any u f v g s w hu hv
end Go.Proofs.Ytaaceadcnnfngaa
