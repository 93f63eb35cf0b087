/- RosettePeriods: the law's walk. Condition: slices read as lists. -/
import Derived.Test.YtaaceadcnnfngaaRTurnF
import Derived.Test.YtaaceadcnnfngaaRPer2
namespace Go.Proofs.Ytaaceadcnnfngaa
open Go.RowKit

set_option maxRecDepth 100000 in
set_option maxHeartbeats 8000000 in
theorem lawPeriods_any (u : Value) (f : List Int) (x : Value) (b : List Int) (w : World) (hu : IsI w u f) (hx : IsI w x b) :
    Calls Try.prog 11 #[u, x] w fun e w' => e = .returned (.bool true) ∧ Ext w w' := by
  have S0 := Lib.hid (((Has.nil w).snoc hu).snoc hx)
  have X0 := Lib.hid (Ext.refl w)
  obtain ⟨Au, nu, cu, rfl, _⟩ := hu.open_
  clear hu
  obtain ⟨Ax, nx, cx, rfl, _⟩ := hx.open_
  clear hx
  go_enter Try.func11, Try.ntmps11
  go_wp2_with fail
  refine (alive_any w).mono ?_
  rintro e w1 ⟨rfl, x1⟩
  have S1 := Lib.hid (S0.out.ext x1)
  have X1 := Lib.hid (X0.out.trans x1)
  clear x1 S0 X0
  go_wp2_with fail
  refine lay_calls (fun W => Ext w1 W ∧ W.cell? ⟨w1.heap.size, 0, none⟩ = some (.slice Au nu cu) ∧ W.cell? ⟨w1.heap.size, 1, none⟩ = some (.slice Ax nx cx)) ⟨by (repeat' (first | with_reducible exact Ext.refl _ | with_reducible apply Ext.alloc | with_reducible apply Ext.drew | with_reducible apply Ext.drewN | with_reducible refine Ext.setCell ?_ ?_ _ | with_reducible apply Ext.step | with_reducible assumption | with_reducible exact Nat.le_refl _ | (simp; done) | (simp; omega))), by go_cell, by go_cell⟩ ?_
  rintro w2 ⟨x2, h2_0, h2_1⟩
  have S2 := Lib.hid (S1.out.ext x2)
  have X2 := Lib.hid (X1.out.trans x2)
  clear x2 S1 X1
  refine (great2_any _ _ _ _ f b w2 h2_0 h2_1 (S2.out.get 0 rfl) (S2.out.get 1 rfl)).mono ?_
  rintro e _ ⟨rfl, rfl⟩
  clear h2_0 h2_1
  cases hgr : greatB f b
  rotate_left
  · go_wp2_with fail
    go_ret
    exact ⟨rfl, X2.out⟩
  have hgl : f.length ≤ 120 ∧ b.length ≤ 120 := by simp [greatB] at hgr; omega
  have HGL := Lib.hid hgl
  clear hgl hgr
  cases hc : checkB f
  · have HC := Lib.hid (check_bad hc w2 (S2.out.get 0 rfl))
    go_wp2_with fail
    refine HC.out.mono ?_
    rintro e _ ⟨rfl, rfl⟩
    go_wp2_with fail
    go_ret
    exact ⟨rfl, X2.out⟩
  have HC := Lib.hid (check_good hc w2 (S2.out.get 0 rfl))
  have HCH := Lib.hid hc
  obtain ⟨c3, c96, _⟩ := checkB_iff.1 hc
  obtain ⟨t, ht, htn⟩ := exists_least (zs := f) (by omega)
  have HT := Lib.hid ht
  have hp1 := ht.pos
  clear hc ht
  go_wp2_with fail
  refine HC.out.mono ?_
  rintro e _ ⟨rfl, rfl⟩
  have HNu := Lib.hid (show nu = f.length by have := S2.out.get 0 rfl; obtain ⟨_, _, he, _, _, _⟩ := this; cases he; rfl)
  have HNx := Lib.hid (show nx = b.length by have := S2.out.get 1 rfl; obtain ⟨_, _, he, _, _, _⟩ := this; cases he; rfl)
  have HCE := Lib.hid (show checkE f = 0 by rw [checkE, HCH.out]; rfl)
  have HPV := Lib.hid (show periodV f = (t : Int) by rw [periodV, HCH.out, if_pos rfl]; exact HT.out.period (by omega))
  have HAX := Lib.hid (show axesL f = matchL (imgL f) f by rw [axesL, HCH.out]; rfl)
  have HMI := Lib.hid (show mirroredL f = imgL f by rw [mirroredL, HCH.out]; rfl)
  go_wp2_with fail
  have HA := Lib.hid (Period_any _ f w2 (S2.out.get 0 rfl))
  rw [HPV.out, HCE.out] at HA
  refine (HA.out).mono ?_
  rintro e w3 ⟨rfl, x3⟩
  have S3 := Lib.hid (S2.out.ext x3)
  have X3 := Lib.hid (X2.out.trans x3)
  clear x3 S2 X2
  clear HA
  go_wp2_with fail
  have HA := Lib.hid (Axes_any _ f w3 (S3.out.get 0 rfl))
  rw [HAX.out, HCE.out] at HA
  refine (HA.out).mono ?_
  rintro e w4 ⟨v4, rfl, o4, x4⟩
  have S4 := Lib.hid ((S3.out.ext x4).snoc o4.isI)
  have X4 := Lib.hid (X3.out.trans x4)
  clear x4 S3 X3 o4
  clear HA
  go_wp2_with fail
  have HA := Lib.hid (Mirrored_any _ f w4 (S4.out.get 0 rfl))
  rw [HMI.out, HCE.out] at HA
  refine (HA.out).mono ?_
  rintro e w5 ⟨v5, rfl, o5, x5⟩
  have S5 := Lib.hid ((S4.out.ext x5).snoc o5.isI)
  have X5 := Lib.hid (X4.out.trans x5)
  clear x5 S4 X4 o5
  clear HA
  have ht0 : ¬ (t : Int) = 0 := by omega
  have hm1 : ((nu : Int) % (t : Int)) = 0 := by have := HT.out.dvd; rw [HNu.out]; omega
  obtain ⟨Aa, na, ca, hax, _, hra, hna⟩ := (S5.out.get 2 rfl).open_
  have hax' := hax
  subst hax
  have HRA := Lib.hid hra
  have HNA := Lib.hid hra.len
  have hal := axes_len HT.out (by omega)
  rw [hra.len, ← HNu.out] at hal
  obtain ⟨q, hq⟩ : ∃ q, nu / t = q := ⟨_, rfl⟩
  have hq2 : (nu : Int) / (t : Int) = (q : Int) := by rw [← hq]; simp
  rw [hq] at hal
  have htnu : t ≤ nu := by have := HNu.out; omega
  have hnu3 : 3 ≤ nu := by have := HNu.out; omega
  have hnu96 : nu ≤ 96 := by have := HNu.out; omega
  clear hra hax' hq
  have ha1 : ((na : Int) != 0 && (na : Int) != (q : Int)) = false := by rcases hal with h | h <;> simp [h]
  by_cases hna0 : na = 0
  · subst hna0
    clear hal ha1
    have HTI := Lib.hid HT.out.is
    go_wp2_with fail
    refine (turn_any _ f t w5 (S5.out.get 0 rfl) (by omega) (by omega) (by omega)).mono ?_
    rintro e w6 ⟨v6, rfl, o6, x6⟩
    have HK6 := Lib.hid x6
    have S6 := Lib.hid ((S5.out.ext x6).snoc o6.isI)
    have X6 := Lib.hid (X5.out.trans x6)
    clear x6 S5 X5 o6
    rw [HTI.out] at S6
    go_wp2_with fail
    refine (same_true (S6.out.get 4 rfl) (S6.out.get 0 rfl)).mono ?_
    rintro e w7 ⟨rfl, x7⟩
    have HK7 := Lib.hid x7
    have S7 := Lib.hid (S6.out.ext x7)
    have X7 := Lib.hid (X6.out.trans x7)
    clear x7 S6 X6
    go_wp2_with fail
    go_loopw [12] (fun i wr => ∃ k : Nat, 1 ≤ k ∧ k ≤ t ∧ i = .int .i64 k ∧ Ext w7 wr) (fun i _ => t - (intOf i).toNat)
    case atStart => exact ⟨1, by omega, hp1, rfl, Ext.refl _⟩
    case round =>
      obtain ⟨k, hk1, hk, rfl, hx⟩ := hrel
      have HX := Lib.hid hx
      clear hx
      by_cases hlt : k < t
      · have HS := Lib.hid (show (mvL f k == f) = false by simpa using HT.out.least k hk1 hlt)
        go_wp2_with fail
        refine (turn_any _ f k wr ((S7.out.ext HX.out).get 0 rfl) (by omega) (by omega) (by omega)).mono ?_
        rintro e wa ⟨va, rfl, oa, xa⟩
        have HXA := Lib.hid (HX.out.trans xa)
        have OA := Lib.hid oa.isI
        clear xa oa
        go_wp2_with fail
        have HQ := Lib.hid (lawSame_any va _ (mvL f k) f wa OA.out ((S7.out.ext HXA.out).get 0 rfl))
        rw [HS.out] at HQ
        refine HQ.out.mono ?_
        rintro e wb ⟨rfl, xb⟩
        have HXB := Lib.hid (HXA.out.trans xb)
        clear xb
        go_wp2_with fail
        go_roundw
        case rel => exact ⟨k + 1, by omega, by omega, by go_num, HXB.out⟩
        case measure => simp [intOf]; omega
      · obtain rfl : t = k := by omega
        have SM := Lib.hid (S7.out.ext HX.out)
        have XM := Lib.hid (X7.out.trans HX.out)
        obtain ⟨wm, hwm⟩ : ∃ wm : World, wm = wr := ⟨_, rfl⟩
        have HWM := Lib.hid hwm
        rw [← hwm] at SM XM
        clear hwm
        go_wp2_with fail
        go_loopw [104, 13, 14] (fun i kk _ wq => ∃ j : Nat, j ≤ nu ∧ i = .int .i64 j ∧ kk = .int .i64 ((matchTo (imgL f) f j).length : Nat) ∧ Ext wm wq) (fun i _ _ _ => nu - (intOf i).toNat)
        case atStart => exact ⟨0, by omega, rfl, rfl, by rw [HWM.out]; exact Ext.refl _⟩
        case round =>
          obtain ⟨j, hj, rfl, rfl, hy⟩ := hrel
          have HY := Lib.hid hy
          clear hy
          have HLS := Lib.hid (matchTo_succ (imgL f) f j)
          have hll := matchTo_len (imgL f) f j
          obtain ⟨ln, hln⟩ : ∃ ln, (matchTo (imgL f) f j).length = ln := ⟨_, rfl⟩
          rw [hln] at hll ⊢
          have HLN := Lib.hid hln
          clear hln
          by_cases hlt : j < nu
          · have hdj : decide ((j : Int) < nu) = true := by simp; omega
            go_wp2_with fail
            refine (turn_any _ (imgL f) j wr ((SM.out.ext HY.out).get 3 rfl) (by rw [imgL_len, ← HNu.out]; omega) (by rw [imgL_len, ← HNu.out]; omega) (by rw [imgL_len, ← HNu.out]; omega)).mono ?_
            rintro e wa ⟨va, rfl, oa, xa⟩
            have HXA := Lib.hid (HY.out.trans xa)
            have OA := Lib.hid oa.isI
            clear xa oa
            go_wp2_with fail
            have HQ := Lib.hid (lawSame_any va _ (mvL (imgL f) j) f wa OA.out ((SM.out.ext HXA.out).get 0 rfl))
            cases hq : (mvL (imgL f) j == f)
            · rw [hq] at HQ
              have HQQ := Lib.hid hq
              clear hq
              refine HQ.out.mono ?_
              rintro e wb ⟨rfl, xb⟩
              have HXB := Lib.hid (HXA.out.trans xb)
              clear xb
              go_wp2_with fail
              go_roundw
              case rel => exact ⟨j + 1, by omega, by go_num, by rw [HLS.out, HQQ.out, if_neg (by decide), List.append_nil, HLN.out], HXB.out⟩
              case measure => simp [intOf]; omega
            · rw [hq] at HQ
              have HQQ := Lib.hid hq
              have ⟨hm1', hm2'⟩ := match_at (ys := f) (show j < (imgL f).length by rw [imgL_len, ← HNu.out]; omega) (beq_iff_eq.1 hq)
              rw [HLN.out, HNA.out] at hm1'
              rw [HLN.out] at hm2'
              clear hq

              omega
          · obtain rfl : nu = j := by omega
            have hln2 : ln = 0 := by rw [← HLN.out, ← HNA.out, matchL, imgL_len, ← HNu.out]
            have HL2 := Lib.hid hln2
            subst hln2
            by_cases hg : bothE f b = 0
            · obtain ⟨t2, ht2, htn2⟩ := exists_least (zs := liftL f b) (by rw [liftL_len]; omega)
              have hpl := period_lift HT.out ht2 (fine_iff.1 hg).b1
              have hmod2 : ((t : Int) % (t2 : Int)) = 0 := by omega
              have hp2 := ht2.pos
              have hp3 : decide ((1 : Int) ≤ (t2 : Int)) = true := by simp; omega
              have htm : ((t : Int).tmod (t2 : Int)) = 0 := by rw [Int.tmod_eq_emod_of_nonneg (by omega)]; exact hmod2
              have ht20 : ¬ (t2 : Int) = 0 := by omega
              rw [liftL_len] at htn2
              have HG := Lib.hid hg
              have HPL := Lib.hid (show periodV (liftL f b) = (t2 : Int) by rw [periodV, fine_check (fine_iff.1 hg).lift, if_pos rfl]; exact ht2.period (by rw [liftL_len]; omega))
              have HCL := Lib.hid (show checkE (liftL f b) = 0 by rw [checkE, fine_check (fine_iff.1 hg).lift]; rfl)
              clear hg hpl ht2
              go_wp2_with fail
              refine (Lift_val (zs := liftL f b) HG.out rfl ((SM.out.ext HY.out).get 0 rfl) ((SM.out.ext HY.out).get 1 rfl)).mono ?_
              rintro e wa ⟨va, rfl, oa, xa⟩
              have HXA := Lib.hid (HY.out.trans xa)
              have OA := Lib.hid oa.isI
              clear xa oa
              go_wp2_with fail
              have HA := Lib.hid (Period_any va (liftL f b) wa OA.out)
              rw [HPL.out, HCL.out] at HA
              refine HA.out.mono ?_
              rintro e wb ⟨rfl, xb⟩
              have HXB := Lib.hid (HXA.out.trans xb)
              clear xb HA
              go_wp2_with fail
              all_goals go_ret
              all_goals exact ⟨rfl, XM.out.trans HXB.out⟩
            · have h31 : bothE f b = 31 := by
                unfold bothE rubberE at hg ⊢
                rw [HCH.out] at hg ⊢
                simp only [if_true] at hg ⊢
                split at hg
                · exact absurd rfl hg
                · rename_i hh; rw [if_neg hh]
              have HL := Lib.hid (Lift_any _ _ f b wr ((SM.out.ext HY.out).get 0 rfl) ((SM.out.ext HY.out).get 1 rfl))
              rw [h31] at HL
              clear hg h31
              go_wp2_with fail
              refine HL.out.mono ?_
              rintro e wa ⟨va, rfl, oa, xa⟩
              have HXA := Lib.hid (HY.out.trans xa)
              clear xa oa
              go_wp2_with fail
              go_ret
              exact ⟨rfl, XM.out.trans HXA.out⟩
  · have hnaq : na = q := by omega
    subst hnaq
    have hb1 : ((na : Int) != 0) = true := by simp; omega
    clear hal ha1
    have HTI := Lib.hid HT.out.is
    go_wp2_with fail
    refine (turn_any _ f t w5 (S5.out.get 0 rfl) (by omega) (by omega) (by omega)).mono ?_
    rintro e w6 ⟨v6, rfl, o6, x6⟩
    have HK6 := Lib.hid x6
    have S6 := Lib.hid ((S5.out.ext x6).snoc o6.isI)
    have X6 := Lib.hid (X5.out.trans x6)
    clear x6 S5 X5 o6
    rw [HTI.out] at S6
    go_wp2_with fail
    refine (same_true (S6.out.get 4 rfl) (S6.out.get 0 rfl)).mono ?_
    rintro e w7 ⟨rfl, x7⟩
    have HK7 := Lib.hid x7
    have S7 := Lib.hid (S6.out.ext x7)
    have X7 := Lib.hid (X6.out.trans x7)
    clear x7 S6 X6
    have HE7 := Lib.hid (HK6.out.trans HK7.out)
    go_wp2_with fail
    go_loopw [12] (fun i wr => ∃ k : Nat, 1 ≤ k ∧ k ≤ t ∧ i = .int .i64 k ∧ Ext w7 wr) (fun i _ => t - (intOf i).toNat)
    case atStart => exact ⟨1, by omega, hp1, rfl, Ext.refl _⟩
    case round =>
      obtain ⟨k, hk1, hk, rfl, hx⟩ := hrel
      have HX := Lib.hid hx
      clear hx
      by_cases hlt : k < t
      · have HS := Lib.hid (show (mvL f k == f) = false by simpa using HT.out.least k hk1 hlt)
        go_wp2_with fail
        refine (turn_any _ f k wr ((S7.out.ext HX.out).get 0 rfl) (by omega) (by omega) (by omega)).mono ?_
        rintro e wa ⟨va, rfl, oa, xa⟩
        have HXA := Lib.hid (HX.out.trans xa)
        have OA := Lib.hid oa.isI
        clear xa oa
        go_wp2_with fail
        have HQ := Lib.hid (lawSame_any va _ (mvL f k) f wa OA.out ((S7.out.ext HXA.out).get 0 rfl))
        rw [HS.out] at HQ
        refine HQ.out.mono ?_
        rintro e wb ⟨rfl, xb⟩
        have HXB := Lib.hid (HXA.out.trans xb)
        clear xb
        go_wp2_with fail
        go_roundw
        case rel => exact ⟨k + 1, by omega, by omega, by go_num, HXB.out⟩
        case measure => simp [intOf]; omega
      · obtain rfl : t = k := by omega
        have SM := Lib.hid (S7.out.ext HX.out)
        have XM := Lib.hid (X7.out.trans HX.out)
        obtain ⟨wm, hwm⟩ : ∃ wm : World, wm = wr := ⟨_, rfl⟩
        have HWM := Lib.hid hwm
        rw [← hwm] at SM XM
        clear hwm
        go_wp2_with fail
        go_loopw [104, 13, 14] (fun i kk _ wq => ∃ j : Nat, j ≤ nu ∧ i = .int .i64 j ∧ kk = .int .i64 ((matchTo (imgL f) f j).length : Nat) ∧ Ext wm wq) (fun i _ _ _ => nu - (intOf i).toNat)
        case atStart => exact ⟨0, by omega, rfl, rfl, by rw [HWM.out]; exact Ext.refl _⟩
        case round =>
          obtain ⟨j, hj, rfl, rfl, hy⟩ := hrel
          have HY := Lib.hid hy
          clear hy
          have HLS := Lib.hid (matchTo_succ (imgL f) f j)
          have hll := matchTo_len (imgL f) f j
          obtain ⟨ln, hln⟩ : ∃ ln, (matchTo (imgL f) f j).length = ln := ⟨_, rfl⟩
          rw [hln] at hll ⊢
          have HLN := Lib.hid hln
          clear hln
          by_cases hlt : j < nu
          · have hdj : decide ((j : Int) < nu) = true := by simp; omega
            go_wp2_with fail
            refine (turn_any _ (imgL f) j wr ((SM.out.ext HY.out).get 3 rfl) (by rw [imgL_len, ← HNu.out]; omega) (by rw [imgL_len, ← HNu.out]; omega) (by rw [imgL_len, ← HNu.out]; omega)).mono ?_
            rintro e wa ⟨va, rfl, oa, xa⟩
            have HXA := Lib.hid (HY.out.trans xa)
            have OA := Lib.hid oa.isI
            clear xa oa
            go_wp2_with fail
            have HQ := Lib.hid (lawSame_any va _ (mvL (imgL f) j) f wa OA.out ((SM.out.ext HXA.out).get 0 rfl))
            cases hq : (mvL (imgL f) j == f)
            · rw [hq] at HQ
              have HQQ := Lib.hid hq
              clear hq
              refine HQ.out.mono ?_
              rintro e wb ⟨rfl, xb⟩
              have HXB := Lib.hid (HXA.out.trans xb)
              clear xb
              go_wp2_with fail
              go_roundw
              case rel => exact ⟨j + 1, by omega, by go_num, by rw [HLS.out, HQQ.out, if_neg (by decide), List.append_nil, HLN.out], HXB.out⟩
              case measure => simp [intOf]; omega
            · rw [hq] at HQ
              have HQQ := Lib.hid hq
              have ⟨hm1', hm2'⟩ := match_at (ys := f) (show j < (imgL f).length by rw [imgL_len, ← HNu.out]; omega) (beq_iff_eq.1 hq)
              rw [HLN.out, HNA.out] at hm1'
              rw [HLN.out] at hm2'
              clear hq

              obtain ⟨ba, oa', rfl, _, hca⟩ := HRA.out.at_ ln hm1'
              rw [hm2'] at hca
              have HXW := Lib.hid (show Ext w5 wm from by rw [HWM.out]; exact (HE7.out.trans HX.out))
              refine HQ.out.mono ?_
              rintro e wb ⟨rfl, xb⟩
              have HXB := Lib.hid (HXA.out.trans xb)
              have hcb := (HXW.out.trans HXB.out).cell_some hca
              have hdl : decide ((na : Int) ≤ ln) = false := by simp; omega
              clear xb hca hm2'
              go_wp2_with fail
              go_roundw
              case rel => exact ⟨j + 1, by omega, by go_num, by rw [HLS.out, HQQ.out, if_pos rfl, List.length_append, HLN.out]; go_num, HXB.out⟩
              case measure => simp [intOf]; omega
          · obtain rfl : nu = j := by omega
            have hln2 : ln = na := by rw [← HLN.out, ← HNA.out, matchL, imgL_len, ← HNu.out]
            have HL2 := Lib.hid hln2
            subst hln2
            by_cases hg : bothE f b = 0
            · obtain ⟨t2, ht2, htn2⟩ := exists_least (zs := liftL f b) (by rw [liftL_len]; omega)
              have hpl := period_lift HT.out ht2 (fine_iff.1 hg).b1
              have hmod2 : ((t : Int) % (t2 : Int)) = 0 := by omega
              have hp2 := ht2.pos
              have hp3 : decide ((1 : Int) ≤ (t2 : Int)) = true := by simp; omega
              have htm : ((t : Int).tmod (t2 : Int)) = 0 := by rw [Int.tmod_eq_emod_of_nonneg (by omega)]; exact hmod2
              have ht20 : ¬ (t2 : Int) = 0 := by omega
              rw [liftL_len] at htn2
              have HG := Lib.hid hg
              have HPL := Lib.hid (show periodV (liftL f b) = (t2 : Int) by rw [periodV, fine_check (fine_iff.1 hg).lift, if_pos rfl]; exact ht2.period (by rw [liftL_len]; omega))
              have HCL := Lib.hid (show checkE (liftL f b) = 0 by rw [checkE, fine_check (fine_iff.1 hg).lift]; rfl)
              clear hg hpl ht2
              go_wp2_with fail
              refine (Lift_val (zs := liftL f b) HG.out rfl ((SM.out.ext HY.out).get 0 rfl) ((SM.out.ext HY.out).get 1 rfl)).mono ?_
              rintro e wa ⟨va, rfl, oa, xa⟩
              have HXA := Lib.hid (HY.out.trans xa)
              have OA := Lib.hid oa.isI
              clear xa oa
              go_wp2_with fail
              have HA := Lib.hid (Period_any va (liftL f b) wa OA.out)
              rw [HPL.out, HCL.out] at HA
              refine HA.out.mono ?_
              rintro e wb ⟨rfl, xb⟩
              have HXB := Lib.hid (HXA.out.trans xb)
              clear xb HA
              go_wp2_with fail
              all_goals go_ret
              all_goals exact ⟨rfl, XM.out.trans HXB.out⟩
            · have h31 : bothE f b = 31 := by
                unfold bothE rubberE at hg ⊢
                rw [HCH.out] at hg ⊢
                simp only [if_true] at hg ⊢
                split at hg
                · exact absurd rfl hg
                · rename_i hh; rw [if_neg hh]
              have HL := Lib.hid (Lift_any _ _ f b wr ((SM.out.ext HY.out).get 0 rfl) ((SM.out.ext HY.out).get 1 rfl))
              rw [h31] at HL
              clear hg h31
              go_wp2_with fail
              refine HL.out.mono ?_
              rintro e wa ⟨va, rfl, oa, xa⟩
              have HXA := Lib.hid (HY.out.trans xa)
              clear xa oa
              go_wp2_with fail
              go_ret
              exact ⟨rfl, XM.out.trans HXA.out⟩
theorem lawPeriods_row (u : Value) (f : List Int) (x : Value) (b : List Int) (w : World) (hu : IsI w u f) (hx : IsI w x b) :
    Calls Try.prog 11 #[u, x] w fun e w' => e = .returned (.bool true) ∧ Ext w w' := lawPeriods_any u f x b w hu hx
end Go.Proofs.Ytaaceadcnnfngaa
