/- RosetteCounted: the law's walk. Condition: slices read as lists. -/
import Derived.Test.YtaaceadcnnfngaaRLawC
import Derived.Test.YtaaceadcnnfngaaROdo
import Derived.Test.YtaaceadcnnfngaaRMul
namespace Go.Proofs.Ytaaceadcnnfngaa
open Go.RowKit

theorem own_zeros (w : World) (n : Nat) (hn : n ≤ 1000) : OwnI w.heap.size (w.alloc (.cells (madeCells #[.int .i64 0] n) 3)) (.slice (some ⟨w.heap.size, 0, none⟩) n n) (List.replicate n 0) := by
  rw [madeCells_one]
  refine ⟨by simp, .inr ⟨w.heap.size, n, (List.replicate n (.int .i64 0)).toArray, by simp, Nat.le_refl _, heap_alloc_new _ _, by simp, by unfold maxLen; omega, by simp, by simp⟩⟩

set_option maxRecDepth 100000 in
set_option maxHeartbeats 8000000 in
theorem lawCounted_any (u : Value) (f : List Int) (x : Value) (b : List Int) (w : World) (hu : IsI w u f) (hx : IsI w x b) :
    Calls Try.prog 9 #[u, x] w fun e w' => e = .returned (.bool true) ∧ Ext w w' := by
  have S0 := Lib.hid (((Has.nil w).snoc hu).snoc hx)
  have X0 := Lib.hid (Ext.refl w)
  obtain ⟨Au, nu, cu, rfl, _⟩ := hu.open_
  clear hu
  obtain ⟨Ax, nx, cx, rfl, _⟩ := hx.open_
  clear hx
  go_enter Try.func9, Try.ntmps9
  go_wp2_with fail
  refine (alive_any w).mono ?_
  rintro e w1 ⟨rfl, x1⟩
  have S1 := Lib.hid (S0.out.ext x1)
  have X1 := Lib.hid (X0.out.trans x1)
  clear x1 S0 X0
  go_wp2_with fail
  refine lay_calls (fun W => Ext w1 W ∧ W.cell? ⟨w1.heap.size, 0, none⟩ = some (.slice Au nu cu) ∧ W.cell? ⟨w1.heap.size, 1, none⟩ = some (.slice Ax nx cx)) ⟨by (repeat' (first | with_reducible exact Ext.refl _ | with_reducible apply Ext.alloc | with_reducible apply Ext.drew | with_reducible apply Ext.drewN | with_reducible refine Ext.setCell ?_ ?_ _ | with_reducible apply Ext.step | with_reducible assumption | with_reducible exact Nat.le_refl _ | (simp; done) | (simp; omega))), by go_cell, by go_cell⟩ ?_
  rintro w2 ⟨x2, h2_0, h2_1⟩
  have S2 := Lib.hid (S1.out.ext x2)
  have X2 := Lib.hid (X1.out.trans x2)
  clear x2 S1 X1
  refine (great2_any _ _ _ _ f b w2 h2_0 h2_1 (S2.out.get 0 rfl) (S2.out.get 1 rfl)).mono ?_
  rintro e _ ⟨rfl, rfl⟩
  clear h2_0 h2_1
  cases hgr : greatB f b
  rotate_left
  · go_wp2_with fail
    go_ret
    exact ⟨rfl, X2.out⟩
  have hgl : f.length ≤ 120 ∧ b.length ≤ 120 := by simp [greatB] at hgr; omega
  have HGL := Lib.hid hgl
  clear hgl hgr
  go_wp2_with fail
  refine (valid_any _ _ f b w2 (S2.out.get 0 rfl) (S2.out.get 1 rfl)).mono ?_
  rintro e _ ⟨rfl, rfl⟩
  cases vf : validB f b
  · go_wp2_with fail
    go_ret
    exact ⟨rfl, X2.out⟩
  have Hvf := Lib.hid vf
  clear vf
  have Fvf := Lib.hid (fine_iff.1 (of_decide_eq_true Hvf.out))
  have HNu := Lib.hid (show nu = f.length by have := S2.out.get 0 rfl; obtain ⟨_, _, he, _, _, _⟩ := this; cases he; rfl)
  have HNx := Lib.hid (show nx = b.length by have := S2.out.get 1 rfl; obtain ⟨_, _, he, _, _, _⟩ := this; cases he; rfl)
  have HB := Lib.hid (of_decide_eq_true Hvf.out)
  by_cases h7 : nx ≤ 7
  rotate_left
  · have hd7 : decide (7 < (nx : Int)) = true := by simp; omega
    go_wp2_with fail
    go_ret
    exact ⟨rfl, X2.out⟩
  have hd7 : decide (7 < (nx : Int)) = false := by simp; omega
  by_cases h6 : nu ≤ 6
  rotate_left
  · have hd6 : decide (6 < (nu : Int)) = true := by simp; omega
    go_wp2_with fail
    go_ret
    exact ⟨rfl, X2.out⟩
  have hd6 : decide (6 < (nu : Int)) = false := by simp; omega
  obtain ⟨Af, nf, cf, hf1, _, hrf, _⟩ := (S2.out.get 0 rfl).open_
  cases hf1
  have HRF := Lib.hid hrf
  clear hrf
  go_wp2_with fail
  clear hd7 hd6
  go_loopw [46, 6, 8] (fun i mo _ wr => ∃ k : Nat, k ≤ nu ∧ i = .int .i64 k ∧ mo = .int .i64 (mostTo f k) ∧ Ext w2 wr) (fun i _ _ _ => nu - (intOf i).toNat)
  case atStart => exact ⟨0, by omega, rfl, rfl, Ext.refl _⟩
  case round =>
    obtain ⟨k, hk, rfl, rfl, hxk⟩ := hrel
    have HXK := Lib.hid hxk
    by_cases hlt : k < nu
    · have hdk : decide ((k : Int) < nu) = true := by simp; omega
      obtain ⟨bf, of, hA, _, hcf⟩ := HRF.out.at_ k hlt
      subst hA
      have c1 := hxk.cell_some hcf
      have HM := Lib.hid (mostTo_succ f k)
      have ⟨m1, m2, _⟩ := mostTo_bd Fvf.out.hx k
      have ⟨x1, x2⟩ := Fvf.out.hx k
      clear hcf hxk
      generalize mostTo f k = mo at *
      generalize f[k]?.getD 0 = xk at *
      by_cases hm : mo < xk
      all_goals
        go_wp2_with fail
        go_roundw
        case rel => exact ⟨k + 1, by omega, by go_num, by rw [HM.out] <;> go_num, HXK.out⟩
        case measure => simp [intOf]; omega
    · obtain rfl : k = nu := by omega
      have hdk : decide ((k : Int) < k) = false := by simp
      obtain ⟨m1, m2, m3⟩ := mostTo_bd Fvf.out.hx k
      obtain ⟨M, hM⟩ : ∃ M : Nat, mostTo f k = M := ⟨(mostTo f k).toNat, by omega⟩
      rw [hM] at m2 m3 ⊢
      have HMB := Lib.hid (show ∀ i : Nat, f[i]?.getD 0 ≤ (M : Int) from fun i => by
        rcases Nat.lt_or_ge i k with h | h
        · exact m3 i h
        · rw [List.getElem?_eq_none (by rw [← HNu.out]; exact h)]; simp)
      have HM2 := Lib.hid (show M ≤ 10000 by omega)
      clear hM m1 m2 m3
      generalize wr = w3 at *
      have S3 := Lib.hid (S2.out.ext HXK.out)
      by_cases h4 : M ≤ 4
      rotate_left
      · have hcd : decide (4 < (M : Int)) = true := by simp; omega
        go_wp2_with fail
        go_ret
        exact ⟨rfl, X2.out.trans HXK.out⟩
      have h4d : decide (4 < (M : Int)) = false := by simp; omega
      by_cases h2 : 2 < M ∧ 4 < k
      · have hcd : decide (2 < (M : Int)) = true := by simp; omega
        have hcd2 : decide (4 < (k : Int)) = true := by simp; omega
        go_wp2_with fail
        go_ret
        exact ⟨rfl, X2.out.trans HXK.out⟩
      have hc : (M ≤ 2 ∧ k ≤ 6) ∨ (M ≤ 4 ∧ k ≤ 4) := by omega
      rcases (show (decide (2 < (M : Int)) = false) ∨ (decide (2 < (M : Int)) = true ∧ decide (4 < (k : Int)) = false) by simp; omega) with hcd | ⟨hcd, hcd2⟩
      all_goals
        have hpw := pow_small (M := M) (n := k) (by omega)
        have HPW := Lib.hid hpw
        obtain ⟨PW, hPW⟩ : ∃ PW, (M + 1) ^ k = PW := ⟨_, rfl⟩
        rw [hPW] at hpw
        have HPE := Lib.hid hPW
        have HM4 := Lib.hid (show M ≤ 4 by omega)
        clear hPW
        have hmk : ∀ w : World, (Instr.makeSlice 22 (.int .i64 (k : Int)) (.int .i64 (k : Int))).run Try.prog w = .ok (.slice (some ⟨w.heap.size, 0, none⟩) k k) (w.alloc (.cells (madeCells #[.int .i64 0] k) 3)) := fun w =>
          run_make_row' (P := Try.prog) 22 3 (.int .i64 0) 8 Try.underlying22 intInfo rfl .i64 .i64 k (by omega) (by omega) w
        have HOZ := Lib.hid (own_zeros w3 k (by omega))
        go_wp2_with fail
        refine lay_wp (fun W => Ext w3 W ∧ OwnI w3.heap.size W (.slice (some ⟨w3.heap.size, 0, none⟩) k k) (digs M f.length 0)) ⟨by (repeat' (first | with_reducible exact Ext.refl _ | with_reducible apply Ext.alloc | with_reducible apply Ext.drew | with_reducible apply Ext.drewN | with_reducible refine Ext.setCell ?_ ?_ _ | with_reducible apply Ext.step | with_reducible assumption | with_reducible exact Nat.le_refl _ | (simp; done) | (simp; omega))), by rw [digs_zero, ← HNu.out]; exact HOZ.out⟩ ?_
        rintro w4 ⟨x4, o4⟩
        clear hcd h4d hmk HOZ
        (try clear hcd2)
        go_loopw [10, 11, 12, 13] (fun mm _ _ _ wr => ∃ t : Nat, t < PW ∧ mm = .int .i64 (manyT M f b t : Nat) ∧ OwnI w3.heap.size wr (.slice (some ⟨w3.heap.size, 0, none⟩) k k) (digs M f.length t) ∧ Ext w3 wr) (fun _ _ _ _ wr => PW - und M (cellsL wr w3.heap.size k))
        case atStart => exact ⟨0, by rw [← HPE.out]; exact Nat.pow_pos (by omega), rfl, o4, x4⟩
        case round =>
          obtain ⟨t, ht, rfl, hot, hxt⟩ := hrel
          clear o4 x4
          have HOT := Lib.hid hot
          have HXT := Lib.hid hxt
          clear hot hxt
          generalize wr = w5 at *
          have S5 := Lib.hid (S3.out.ext HXT.out)
          have HFD := Lib.hid (fine_digs Fvf.out HM2.out t)
          have HMS := Lib.hid (manyT_succ M f b t)
          have hml := manyT_le M f b t
          have HMU := Lib.hid (show und M (cellsL w5 w3.heap.size k) = t by
            have h := HOT.out
            rw [show k = (digs M f.length t).length by rw [digs_len, HNu.out]] at h
            have h1 := cellsL_own h
            rw [digs_len, ← HNu.out] at h1
            rw [h1, und_digs M k t (by rw [HPE.out]; exact ht)])
          go_wp2_with fail
          refine (Lift_val (zs := liftL (digs M f.length t) b) (fine_iff.2 HFD.out) rfl HOT.out.isI (S5.out.get 1 rfl)).mono ?_
          rintro e w6 ⟨v6, rfl, o6, x6⟩
          have S6 := Lib.hid ((S5.out.ext x6).snoc o6.isI)
          have HX6 := Lib.hid (HXT.out.trans x6)
          have HO6 := Lib.hid (HOT.out.ext x6)
          clear x6 o6
          go_wp2_with fail
          refine (lawSame_any _ _ (liftL (digs M f.length t) b) f w6 (S6.out.get 2 rfl) (S6.out.get 0 rfl)).mono ?_
          rintro e w7 ⟨rfl, x7⟩
          have HX7 := Lib.hid (HX6.out.trans x7)
          have HO7 := Lib.hid (HO6.out.ext x7)
          have S7 := Lib.hid (S6.out.ext x7)
          clear x7 HO6 HX6 S6
          cases hq : (liftL (digs M f.length t) b == f)
          all_goals
            rw [hq] at HMS
            first | rw [if_neg (by decide), Nat.add_zero] at HMS | rw [if_pos rfl] at HMS
            clear hq
            generalize manyT M f b t = mt at *
            go_wp2_with fail
            go_loopw [13] (fun i W => ∃ (j : Nat) (ws : List Int), j ≤ k ∧ i = .int .i64 j ∧ Hid (∀ j', j' < j → (digs M f.length t)[j']?.getD 0 = M) ∧ Hid (ws.length = k) ∧ Hid (∀ j', ws[j']?.getD 0 = if j' < j then 0 else (digs M f.length t)[j']?.getD 0) ∧ OwnI w3.heap.size W (.slice (some ⟨w3.heap.size, 0, none⟩) k k) ws ∧ Ext w3 W) (fun i _ => k - (intOf i).toNat)
            case atStart => exact ⟨0, _, by omega, rfl, Lib.hid (fun j' h => absurd h (by omega)), Lib.hid (by rw [digs_len, HNu.out]), Lib.hid (fun j' => by simp), HO7.out, HX7.out⟩
            case round =>
              obtain ⟨j, ws, hj, rfl, HJ1, HJ2, HJ3, how, hxw⟩ := hrel
              have HOW := Lib.hid how
              have HXW := Lib.hid hxw
              clear hxw
              by_cases hjl : j < k
              · have hdj : decide ((j : Int) < k) = true := by simp; omega
                obtain ⟨g, cg, heg, _, hc1, hf1, hset⟩ := how.slot (k := j) (by rw [HJ2.out]; exact hjl)
                rw [HJ2.out] at heg
                cases heg
                have HSET := Lib.hid hset
                have h3 := HJ3.out j
                rw [if_neg (Nat.lt_irrefl j)] at h3
                rw [h3] at hc1
                have HDB := Lib.hid (digs_bd M f.length t j)
                have hb1 := HDB.out.1
                have hb2 := HDB.out.2
                have hM4 := HM4.out
                clear hset h3
                by_cases hdm : (digs M f.length t)[j]?.getD 0 = M
                · have HDM := Lib.hid hdm
                  rw [hdm] at hc1
                  have hde : ((M : Int) == (M : Int)) = true := by simp
                  clear hdm hb1 hb2
                  go_wp2_with fail
                  go_roundw
                  case rel =>
                    refine ⟨j + 1, ws.set j 0, by omega, by go_num, Lib.hid fun j' h => ?_, Lib.hid (by rw [List.length_set]; exact HJ2.out), Lib.hid fun j' => ?_, HSET.out 0, HXW.out.below ((Below.refl w3.heap.size _).setCell (Nat.le_refl _) _) (Nat.le_refl _)⟩
                    · rcases Nat.eq_or_lt_of_le (Nat.le_of_lt_succ h) with rfl | h
                      · exact HDM.out
                      · exact HJ1.out j' h
                    · rw [List.getElem?_set]
                      by_cases he : j = j'
                      · subst he
                        rw [if_pos rfl, if_pos (by rw [HJ2.out]; exact hjl), if_pos (by omega)]
                        rfl
                      · rw [if_neg he, HJ3.out j']
                        by_cases h2 : j' < j
                        · rw [if_pos h2, if_pos (by omega)]
                        · rw [if_neg h2, if_neg (by omega)]
                  case measure => simp [intOf]; omega
                · have HDM := Lib.hid hdm
                  have HNX := Lib.hid (digs_next M f.length t j (by rw [← HNu.out]; exact hjl) HJ1.out hdm)
                  have HLT := Lib.hid (show t + 1 < PW by
                    rcases Nat.lt_or_ge (t + 1) PW with h | h
                    · exact h
                    · have hs : (digs M f.length (t + 1))[j]?.getD 0 = (digs M f.length t)[j]?.getD 0 + 1 := by rw [HNX.out j, if_neg (by omega), if_pos rfl]
                      exact absurd (digs_wrap M k t (by rw [HPE.out]; exact ht) (by rw [HPE.out]; exact h) j hjl) (by rw [HNu.out]; exact hdm))
                  obtain ⟨dv, hdv⟩ : ∃ dv, (digs M f.length t)[j]?.getD 0 = dv := ⟨_, rfl⟩
                  have HEQ := Lib.hid (show ws.set j (dv + 1) = digs M f.length (t + 1) by
                    refine list_ext (by rw [digs_len, List.length_set, HJ2.out, HNu.out]) fun j' hj' => ?_
                    rw [HNX.out j', List.getElem?_set]
                    by_cases he : j = j'
                    · subst he
                      rw [if_pos rfl, if_pos (by rw [HJ2.out]; exact hjl), if_neg (Nat.lt_irrefl _), if_pos rfl, hdv]
                      rfl
                    · rw [if_neg he, HJ3.out j']
                      by_cases h2 : j' < j
                      · rw [if_pos h2, if_pos h2]
                      · rw [if_neg h2, if_neg h2, if_neg (fun h => he h.symm)])
                  have HNW := Lib.hid (show ∀ W : World, OwnI w3.heap.size W (.slice (some ⟨w3.heap.size, 0, none⟩) k k) (ws.set j (dv + 1)) → und M (cellsL W w3.heap.size k) = t + 1 from fun W h => by
                    rw [HEQ.out] at h
                    rw [show k = (digs M f.length (t + 1)).length by rw [digs_len, HNu.out]] at h
                    have h1 := cellsL_own h
                    rw [digs_len, ← HNu.out] at h1
                    rw [h1, und_digs M k (t + 1) (by rw [HPE.out]; exact HLT.out)])
                  rw [hdv] at hc1 hb1 hb2 hdm
                  clear hdv
                  have hde : (dv == (M : Int)) = false := by simpa using hdm
                  have hje : ((j : Int) == (k : Int)) = false := by simp; omega
                  clear hdm
                  go_wp2_with fail
                  go_roundw
                  case rel =>
                    refine ⟨t + 1, HLT.out, by rw [HMS.out] <;> go_num, ?_, HXW.out.below ((Below.refl w3.heap.size _).setCell (Nat.le_refl _) _) (Nat.le_refl _)⟩
                    rw [← HEQ.out]
                    exact HSET.out (dv + 1)
                  case measure =>
                    have h1 := HNW.out _ (HSET.out (dv + 1))
                    have h2 := HMU.out
                    have h3 := HLT.out
                    first
                      | (rw [h1, h2]; omega)
                      | (simp only [h1, h2]; omega)
              · obtain rfl : j = k := by omega
                have hdj : decide ((j : Int) < j) = false := by simp
                have hje : ((j : Int) == (j : Int)) = true := by simp
                have HTL := Lib.hid (digs_last M j t (by rw [HPE.out]; exact ht) (by rw [HNu.out] at HJ1 ⊢; exact HJ1.out))
                have HMA := Lib.hid (show manyT M f b (t + 1) = allN M f b by rw [HTL.out, HNu.out, manyT_all])
                have h1 := HTL.out
                have h2 := HPE.out
                have h3 := HNu.out
                have HCE := Lib.hid (show countEr f b = 0 by rw [countEr_fine Fvf.out, if_neg (by rw [← HNx.out]; omega)])
                have HCA := Lib.hid (countN_all Fvf.out HMB.out HM2.out (by rw [← HNx.out]; exact h7))
                rw [← HMA.out, HMS.out] at HCA
                have HPO := Lib.hid (allN_pos Fvf.out HMB.out HM2.out)
                rw [← HMA.out, HMS.out] at HPO
                have hmt : mt ≤ 728 := by omega
                generalize wr = w8 at *
                have S8 := Lib.hid (S3.out.ext HXW.out)
                have X8 := Lib.hid (X2.out.trans (HXK.out.trans HXW.out))
                clear h1 h2 h3
                go_wp2_with fail
                have HA := Lib.hid (count_any _ _ f b w8 (S8.out.get 0 rfl) (S8.out.get 1 rfl))
                rw [HCA.out, HCE.out] at HA
                first
                  | rw [show ((mt + 0 : Nat) : Int) % 1000000007 = (mt : Int) by omega] at HA
                  | rw [show ((mt : Nat) : Int) % 1000000007 = (mt : Int) by omega] at HA
                  | rw [show ((mt + 1 : Nat) : Int) % 1000000007 = (mt : Int) + 1 by omega] at HA
                refine HA.out.mono ?_
                rintro e w9 ⟨rfl, x9⟩
                have S9 := Lib.hid (S8.out.ext x9)
                have X9 := Lib.hid (X8.out.trans x9)
                clear x9 S8 X8 HA
                go_wp2_with fail
                have HA := Lib.hid (Find_any _ _ f b w9 (S9.out.get 0 rfl) (S9.out.get 1 rfl))
                cases hfd : foundB f b
                · first
                  | (exfalso; have h0 := HPO.out.1 (by omega); rw [hfd] at h0; exact absurd h0 (by decide))
                  | (have HFE := Lib.hid (show findEr f b = 6 by rw [findEr, if_pos HB.out, hfd]; rfl)
                     rw [HFE.out] at HA
                     rw [hfd] at HPO
                     have h0 := HPO.out
                     clear hfd
                     refine HA.out.mono ?_
                     rintro e w10 ⟨v10, rfl, o10, x10⟩
                     have X10 := Lib.hid (X9.out.trans x10)
                     clear x10 S9 X9 o10 HA
                     have hz : decide (0 < (mt : Int)) = false := by simp at h0 ⊢; try omega
                     have hzn : decide (0 < mt) = false := by simp at h0 ⊢; try omega
                     clear h0
                     go_wp2_with fail
                     go_ret
                     exact ⟨rfl, X10.out⟩)
                · have HFE := Lib.hid (show findEr f b = 0 by rw [findEr, if_pos HB.out, if_pos hfd])
                  rw [HFE.out] at HA
                  rw [hfd] at HPO
                  have h0 := HPO.out.2 rfl
                  clear hfd
                  refine HA.out.mono ?_
                  rintro e w10 ⟨v10, rfl, o10, x10⟩
                  have X10 := Lib.hid (X9.out.trans x10)
                  clear x10 S9 X9 o10 HA
                  have hz1 : decide (0 < (mt : Int) + 1) = true := by first | (simp; done) | (simp; omega)
                  (try have hzn : decide (0 < mt) = true := by first | (simp; done) | (simp; omega))
                  (try have hz : decide (0 < (mt : Int)) = true := by first | (simp; done) | (simp; omega))
                  clear h0
                  go_wp2_with fail
                  go_ret
                  exact ⟨rfl, X10.out⟩
theorem lawCounted_row (u : Value) (f : List Int) (x : Value) (b : List Int) (w : World) (hu : IsI w u f) (hx : IsI w x b) :
    Calls Try.prog 9 #[u, x] w fun e w' => e = .returned (.bool true) ∧ Ext w w' := lawCounted_any u f x b w hu hx
end Go.Proofs.Ytaaceadcnnfngaa
