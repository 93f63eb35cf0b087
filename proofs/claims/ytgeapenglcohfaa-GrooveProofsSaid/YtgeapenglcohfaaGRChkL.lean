/- The reference's CheckLoop. Condition: the work's cuts and the list read. -/
import Derived.Test.YtgeapenglcohfaaGRChkP
import Derived.Test.YtgeapenglcohfaaGRFirst
namespace Go.Proofs.Ytgeapenglcohfaa
open Go.RowKit

theorem chkLE_is {k : WkT} (hb : workB k = true) (l : List Int) {b : Bool} (h : loopMB (ruleM k) k.cuts.length l = b) : chkLE k l = if b then 0 else 53 := by
  unfold chkLE
  rw [if_pos hb, show loopB k l = loopMB (ruleM k) k.cuts.length l from rfl, h]

set_option maxRecDepth 100000 in
set_option maxHeartbeats 4000000 in
theorem refCheckLoop_any (k : WkT) (v : Value) (u : Value) (l : List Int) (w : World) (hI : CutsIs w v k.cuts) (hJ : IsI w u l) :
    Calls Try.prog 46 #[k.val v, u] w fun e w' => e = .returned (.int .i64 (chkLE k l)) ∧ Ext w w' := by
  have HW := Lib.hid fun (W : World) (x : Ext w W) => refWork_any k v W (hI.ext x)
  obtain ⟨A', m, c', rfl, -, hr, hmm⟩ := hJ.open_
  have HQ := Lib.hid hr
  have HLN := Lib.hid hr.len
  clear hJ hr
  cases hb : workB k
  · obtain ⟨A, c, rfl, -⟩ := cutsIs_at hI
    have HR := Lib.hid (show chkLE k l = 51 from if_neg (by rw [hb]; exact Bool.false_ne_true))
    rw [hb] at HW
    clear hb hI
    go_enter Try.func46, Try.ntmps46
    go_wp2_with fail
    refine (HW.out _ (by (repeat' (first | with_reducible exact Ext.refl _ | with_reducible apply Ext.alloc | with_reducible apply Ext.drew | with_reducible apply Ext.drewN | with_reducible refine Ext.setCell ?_ ?_ _ | with_reducible apply Ext.step | with_reducible assumption | with_reducible exact Nat.le_refl _ | (simp; done) | (simp; omega))))).mono ?_
    rintro e W1 ⟨rfl, x1⟩
    have HX1 := Lib.hid (show Ext w W1 from Ext.trans (by (repeat' (first | with_reducible exact Ext.refl _ | with_reducible apply Ext.alloc | with_reducible apply Ext.drew | with_reducible apply Ext.drewN | with_reducible refine Ext.setCell ?_ ?_ _ | with_reducible apply Ext.step | with_reducible assumption | with_reducible exact Nat.le_refl _ | (simp; done) | (simp; omega)))) x1)
    clear x1
    go_wp2_with fail
    go_ret
    exact ⟨by rw [HR.out]; rfl, HX1.out⟩
  have HNO := Lib.hid fun (h : loopMB (ruleM k) k.cuts.length l = false) => (show chkLE k l = 53 from chkLE_is hb l h)
  have HOK := Lib.hid fun (h : loopMB (ruleM k) k.cuts.length l = true) => (show chkLE k l = 0 from chkLE_is hb l h)
  have HFI := Lib.hid fun (i j : Nat) (W : World) (x : Ext w W) (hi : i < k.cuts.length) (hj : j < k.cuts.length) => refFirst_any k v i j W (hI.ext x) hb hi hj
  obtain ⟨_, _, h16, _⟩ := workB_iff.1 hb
  obtain ⟨A, c, rfl, -, ⟨hcl, hcm⟩, -⟩ := cutsIs_at hI
  unfold maxLen at hcm
  rw [hb] at HW
  obtain ⟨n, hn⟩ : ∃ n, n = k.cuts.length := ⟨_, rfl⟩
  obtain ⟨M, hM⟩ : ∃ M, M = ruleM k := ⟨_, rfl⟩
  rw [← hn] at HW HNO HOK HFI h16 hcl ⊢
  rw [← hM] at HNO HOK HFI
  clear hb hn hI hM hcl hcm
  cases h2 : inB 2 (n : Int) (m : Int)
  · have HF := Lib.hid (HNO.out (by
      rcases (by have := inB_false.1 h2; omega : m < 2 ∨ n < m) with h | h
      · exact loopMB_short (by rw [HLN.out]; exact h)
      · exact loopMB_long (by rw [HLN.out]; exact h)))
    have HG := Lib.hid fun W : World => (show Calls Try.prog 63 #[.int .i64 (m : Int), .int .i64 2, .int .i64 (n : Int)] W fun e w' => e = .returned (.bool false) ∧ W = w' from h2 ▸ within_any (m : Int) 2 (n : Int) W)
    clear h2
    go_enter Try.func46, Try.ntmps46
    go_wp2_with fail
    refine (HW.out _ (by (repeat' (first | with_reducible exact Ext.refl _ | with_reducible apply Ext.alloc | with_reducible apply Ext.drew | with_reducible apply Ext.drewN | with_reducible refine Ext.setCell ?_ ?_ _ | with_reducible apply Ext.step | with_reducible assumption | with_reducible exact Nat.le_refl _ | (simp; done) | (simp; omega))))).mono ?_
    rintro e W1 ⟨rfl, x1⟩
    have HX1 := Lib.hid (show Ext w W1 from Ext.trans (by (repeat' (first | with_reducible exact Ext.refl _ | with_reducible apply Ext.alloc | with_reducible apply Ext.drew | with_reducible apply Ext.drewN | with_reducible refine Ext.setCell ?_ ?_ _ | with_reducible apply Ext.step | with_reducible assumption | with_reducible exact Nat.le_refl _ | (simp; done) | (simp; omega)))) x1)
    obtain ⟨h0, -, -, -, -, -, -, -, -, -, -, -, h12⟩ := (WkAt.new k (.slice A n c) w).ext x1
    have lh := cell_lt h12
    clear x1 h0
    go_wp2_with fail
    refine (HG.out _).mono ?_
    rintro e _ ⟨rfl, rfl⟩
    go_wp2_with fail
    go_ret
    exact ⟨by rw [HF.out]; rfl, HX1.out⟩
  have HG := Lib.hid fun W : World => (show Calls Try.prog 63 #[.int .i64 (m : Int), .int .i64 2, .int .i64 (n : Int)] W fun e w' => e = .returned (.bool true) ∧ W = w' from h2 ▸ within_any (m : Int) 2 (n : Int) W)
  have hm2 := (inB_iff.1 h2).1
  have hmn := (inB_iff.1 h2).2
  have hw1 : IntKind.i64.wrap ((n : Int) - 1) = (n : Int) - 1 := by apply IntWalk.i64_in <;> omega
  have HWI := Lib.hid fun (x : Int) (W : World) => within_any x 0 ((n : Int) - 1) W
  obtain ⟨b, o, rfl, -, -⟩ := HQ.out.at_ 0 (by omega)
  have HC := Lib.hid (show ∀ i, i < m → w.cell? ⟨b, o + i, none⟩ = some (.int .i64 (l[i]?.getD 0)) from fun i hi => by
    obtain ⟨b', o', he, _, h⟩ := HQ.out.at_ i hi
    cases he
    exact h)
  clear h2
  go_enter Try.func46, Try.ntmps46
  go_wp2_with fail
  refine (HW.out _ (by (repeat' (first | with_reducible exact Ext.refl _ | with_reducible apply Ext.alloc | with_reducible apply Ext.drew | with_reducible apply Ext.drewN | with_reducible refine Ext.setCell ?_ ?_ _ | with_reducible apply Ext.step | with_reducible assumption | with_reducible exact Nat.le_refl _ | (simp; done) | (simp; omega))))).mono ?_
  rintro e W1 ⟨rfl, x1⟩
  have HX1 := Lib.hid (show Ext w W1 from Ext.trans (by (repeat' (first | with_reducible exact Ext.refl _ | with_reducible apply Ext.alloc | with_reducible apply Ext.drew | with_reducible apply Ext.drewN | with_reducible refine Ext.setCell ?_ ?_ _ | with_reducible apply Ext.step | with_reducible assumption | with_reducible exact Nat.le_refl _ | (simp; done) | (simp; omega)))) x1)
  have HWK := Lib.hid ((WkAt.new k (.slice A n c) w).ext x1)
  obtain ⟨h0, -, -, -, -, -, -, -, -, -, -, -, h12⟩ := HWK.out
  have lh := cell_lt h12
  clear x1 h0
  go_wp2_with fail
  refine (HG.out _).mono ?_
  rintro e _ ⟨rfl, rfl⟩
  go_wp2_with fail
  go_loopw [5] (fun iv wr => ∃ j : Nat, j ≤ m ∧ iv = .int .i64 (j : Int) ∧ Hid (diffTo l n j = true) ∧ Ext W1 wr) (fun iv _ => m - (intOf iv).toNat)
  case atStart => exact ⟨0, by omega, rfl, Lib.hid rfl, Ext.refl _⟩
  case round =>
    obtain ⟨j, hj, rfl, HD, hx⟩ := hrel
    obtain ⟨wo, rfl⟩ : ∃ wo, wo = wr := ⟨wr, rfl⟩
    have HX := Lib.hid hx
    obtain ⟨h0, -, -, -, -, -, -, -, -, -, -, -, h12⟩ := HWK.out.ext hx
    have lh := cell_lt h12
    by_cases hlt : j < m
    · have hc := (HX1.out.trans hx).cell_some (HC.out j hlt)
      have lb := cell_lt hc
      have hji : (j : Int) < (m : Int) := by omega
      have HDJ := Lib.hid (show diffTo l n (j + 1) = (decide (0 ≤ l[j]?.getD 0) && decide (l[j]?.getD 0 < (n : Int)) && !(l.take j).contains (l[j]?.getD 0)) by
        show (diffTo l n j && _) = _
        rw [HD.out, Bool.true_and])
      have HNJ := Lib.hid fun (h : diffTo l n (j + 1) = false) => HNO.out (loopMB_diff (by rw [HLN.out]; omega) h)
      have HTK := Lib.hid fun (h : (l.take j).contains (l[j]?.getD 0) = true) => (show diffTo l n (j + 1) = false by rw [HDJ.out, h, Bool.not_true, Bool.and_false])
      obtain ⟨x, hxj⟩ : ∃ x, x = l[j]?.getD 0 := ⟨_, rfl⟩
      rw [← hxj] at hc HDJ HTK
      clear hx h0 hxj
      cases hin : inB 0 ((n : Int) - 1) x
      · have HF := Lib.hid (HNJ.out (by
          rw [HDJ.out]
          rcases (by have := inB_false.1 hin; omega : x < 0 ∨ (n : Int) ≤ x) with h | h
          · rw [decide_eq_false (show ¬ 0 ≤ x by omega)]; rfl
          · rw [decide_eq_false (show ¬ x < (n : Int) by omega), Bool.and_false]; rfl))
        have HGX := Lib.hid fun W : World => (show Calls Try.prog 63 #[.int .i64 x, .int .i64 0, .int .i64 ((n : Int) - 1)] W fun e w' => e = .returned (.bool false) ∧ W = w' from hin ▸ HWI.out x W)
        clear hin
        go_wp2_with fail
        try go_frame
        refine wp_region_bext (by kernel_rfl) (by kernel_rfl) ?_
        repeat (any_goals (go_big_quiet_step ((go_at_call 63; with_reducible exact bext_same (HGX.out _)))))
        all_goals refine wpQuiet_nil ?_
        all_goals rintro _ ⟨δ, rfl⟩
        have HX5 := Lib.hid (HX.out.trans (show Ext wo δ.wd from ⟨δ, rfl⟩))
        generalize δ.wd = W5 at *
        go_wp2_with fail
        go_ret
        exact ⟨by rw [HF.out]; rfl, HX1.out.trans HX5.out⟩
      have HGX := Lib.hid fun W : World => (show Calls Try.prog 63 #[.int .i64 x, .int .i64 0, .int .i64 ((n : Int) - 1)] W fun e w' => e = .returned (.bool true) ∧ W = w' from hin ▸ HWI.out x W)
      have HDK := Lib.hid fun (h : (l.take j).contains x = false) => (show diffTo l n (j + 1) = true by
        rw [HDJ.out, h, decide_eq_true (inB_iff.1 hin).1, decide_eq_true (show x < (n : Int) by have := (inB_iff.1 hin).2; omega)]; rfl)
      clear hin
      go_wp2_with fail
      try go_frame
      refine wp_region_bext (by kernel_rfl) (by kernel_rfl) ?_
      repeat (any_goals (go_big_quiet_step ((go_at_call 63; with_reducible exact bext_same (HGX.out _)))))
      all_goals refine wpQuiet_nil ?_
      all_goals rintro _ ⟨δ, rfl⟩
      have HX5 := Lib.hid (HX.out.trans (show Ext wo δ.wd from ⟨δ, rfl⟩))
      replace hc := Ext.cell_some (W' := δ.wd) ⟨δ, rfl⟩ hc
      replace lb := cell_lt hc
      generalize δ.wd = W5 at *
      clear h12 lh
      go_wp2_with fail
      go_loopw [6] (fun iv wr => ∃ q : Nat, q ≤ j ∧ iv = .int .i64 (q : Int) ∧ Hid (∀ i, i < q → l[i]?.getD 0 ≠ x) ∧ Ext W5 wr) (fun iv _ => j - (intOf iv).toNat)
      case atStart => exact ⟨0, by omega, rfl, Lib.hid (fun i hi => by omega), Ext.refl _⟩
      case round =>
        obtain ⟨q, hq, rfl, HN, hx⟩ := hrel
        have HXI := Lib.hid hx
        by_cases hlq : q < j
        · have hqm : q < m := by omega
          have hqi : (q : Int) < (m : Int) := by omega
          have hqj : (q : Int) < (j : Int) := by omega
          have d1 := hx.cell_some hc
          have d2 := (HX1.out.trans (HX5.out.trans hx)).cell_some (HC.out q hqm)
          have ld := cell_lt d1
          obtain ⟨y, hy⟩ : ∃ y, y = l[q]?.getD 0 := ⟨_, rfl⟩
          rw [← hy] at d2
          have HY := Lib.hid hy
          clear hx hy
          by_cases hxy : x = y
          · subst hxy
            have hxb : ((x : Int) == x) = true := by simp
            have HF := Lib.hid (HNJ.out (HTK.out (by
              rw [List.contains_iff_mem, HY.out]
              have hql : q < l.length := by rw [HLN.out]; exact hqm
              refine List.mem_iff_getElem?.2 ⟨q, ?_⟩
              rw [List.getElem?_take_of_lt hlq, List.getElem?_eq_getElem hql]
              rfl)))
            go_wp2_with fail
            try go_frame
            refine wp_region_bext (by kernel_rfl) (by kernel_rfl) ?_
            repeat (any_goals (go_big_quiet_step (fail)))
            all_goals refine wpQuiet_nil ?_
            all_goals rintro _ ⟨δ, rfl⟩
            have HX6 := Lib.hid (HX5.out.trans (HXI.out.trans (show Ext wr δ.wd from ⟨δ, rfl⟩)))
            generalize δ.wd = W6 at *
            go_wp2_with fail
            go_ret
            exact ⟨by rw [HF.out]; rfl, HX1.out.trans HX6.out⟩
          · have hxb : ((x : Int) == y) = false := by simp; exact hxy
            have HN2 := Lib.hid (show ∀ i, i < q + 1 → l[i]?.getD 0 ≠ x from fun i hi => by
              rcases (by omega : i < q ∨ i = q) with h | rfl
              · exact HN.out i h
              · rw [← HY.out]; exact fun e => hxy e.symm)
            clear hxy
            go_wp2_with fail
            try go_frame
            refine wp_region_bext (by kernel_rfl) (by kernel_rfl) ?_
            repeat (any_goals (go_big_quiet_step (fail)))
            all_goals refine wpQuiet_nil ?_
            all_goals rintro _ ⟨δ, rfl⟩
            have HX6 := Lib.hid (HXI.out.trans (show Ext wr δ.wd from ⟨δ, rfl⟩))
            generalize δ.wd = W6 at *
            go_wp2_with fail
            go_roundw
            case rel => exact ⟨q + 1, by omega, by go_num, HN2, HX6.out⟩
            case measure => simp [intOf]; omega
        · obtain rfl : q = j := by omega
          have HFD := Lib.hid (HDK.out (by
            cases hcc : (l.take q).contains x with
            | false => rfl
            | true =>
              exfalso
              rw [List.contains_iff_mem] at hcc
              obtain ⟨i, hi⟩ := List.mem_iff_getElem?.1 hcc
              have hiq : i < q := by
                have := (List.getElem?_eq_some_iff.1 hi).1
                rw [List.length_take] at this
                omega
              rw [List.getElem?_take_of_lt hiq] at hi
              exact HN.out i hiq (by rw [hi]; rfl)))
          clear hx
          go_wp2_with fail
          go_roundw
          case rel => exact ⟨q + 1, by omega, by go_num, HFD, HX5.out.trans HXI.out⟩
          case measure => simp [intOf]; omega
    · obtain rfl : j = m := by omega
      have HDA := Lib.hid (diffTo_at HD.out)
      clear hx h0 h12 lh
      go_wp2_with fail
      go_loopw [7] (fun iv wr => ∃ i : Nat, i ≤ j ∧ iv = .int .i64 (i : Int) ∧ Hid (∀ t, t < i → M (l[t]?.getD 0).toNat (l[(t + 1) % j]?.getD 0).toNat = true) ∧ Ext wo wr) (fun iv _ => j - (intOf iv).toNat)
      case atStart => exact ⟨0, by omega, rfl, Lib.hid (fun t ht => by omega), Ext.refl _⟩
      case round =>
        obtain ⟨i, hi, rfl, HM, hx⟩ := hrel
        have HXI := Lib.hid hx
        by_cases hlt2 : i < j
        · have X := HX1.out.trans (HX.out.trans hx)
          have HXX := Lib.hid X
          obtain ⟨h0, h1, h2, h3, h4, h5, h6, h7, h8, h9, h10, h11, h12⟩ := HWK.out.ext (HX.out.trans hx)
          have lh := cell_lt h12
          have d1 := X.cell_some (HC.out i hlt2)
          have hrj : (i + 1) % j < j := Nat.mod_lt _ (by omega)
          have d2 := X.cell_some (HC.out ((i + 1) % j) hrj)
          have ld := cell_lt d1
          obtain ⟨hp0, hp1⟩ := HDA.out i hlt2
          obtain ⟨hq0, hq1⟩ := HDA.out _ hrj
          have hrem : ((i : Int) + 1).tmod (j : Int) = (((i + 1) % j : Nat) : Int) := by
            rw [show ((i : Int) + 1) = ((i + 1 : Nat) : Int) by omega]
            rfl
          have hrem2 : ((i : Int) + 1) % (j : Int) = (((i + 1) % j : Nat) : Int) := by
            rw [show ((i : Int) + 1) = ((i + 1 : Nat) : Int) by omega]
            rfl
          have HML := Lib.hid fun (h : M (l[i]?.getD 0).toNat (l[(i + 1) % j]?.getD 0).toNat = true) => (show ∀ t, t < i + 1 → M (l[t]?.getD 0).toNat (l[(t + 1) % j]?.getD 0).toNat = true from fun t ht => by
            rcases (by omega : t < i ∨ t = i) with h' | rfl
            · exact HM.out t h'
            · exact h)
          have HMN := Lib.hid fun (h : M (l[i]?.getD 0).toNat (l[(i + 1) % j]?.getD 0).toNat = false) => HNO.out (loopMB_no (by rw [HLN.out]; exact hlt2) (by rw [HLN.out]; exact h))
          generalize (i + 1) % j = r at *
          obtain ⟨p, hp⟩ : ∃ p : Nat, l[i]?.getD 0 = (p : Int) := ⟨(l[i]?.getD 0).toNat, by omega⟩
          obtain ⟨q, hq⟩ : ∃ q : Nat, l[r]?.getD 0 = (q : Int) := ⟨(l[r]?.getD 0).toNat, by omega⟩
          rw [hp] at d1 hp1 HML HMN
          rw [hq] at d2 hq1 HML HMN
          rw [Int.toNat_natCast, Int.toNat_natCast] at HML HMN
          have hii : (i : Int) < (j : Int) := by omega
          have hri : (r : Int) < (j : Int) := by omega
          have hj0 : ¬ (j : Int) = 0 := by omega
          have hw2 : IntKind.i64.wrap ((i : Int) + 1) = (i : Int) + 1 := by apply IntWalk.i64_in <;> omega
          have HFQ := Lib.hid fun (W : World) (x : Ext wr W) => HFI.out p q W (HXX.out.trans x) (by omega) (by omega)
          clear hx X hp hq hp0 hp1 hq0 hq1 HM
          generalize M p q = bb at *
          cases bb
          · have HF := Lib.hid (HMN.out rfl)
            clear HML HMN
            go_wp2_with fail
            try go_frame
            refine wp_region_bext (by kernel_rfl) (by kernel_rfl) ?_
            repeat (any_goals (go_big_quiet_step ((go_at_call 88; with_reducible exact bext_call (HFQ.out _ (ext_of _))))))
            all_goals refine wpQuiet_nil ?_
            all_goals rintro _ ⟨δ, rfl⟩
            have HX6 := Lib.hid (HXX.out.trans (show Ext wr δ.wd from ⟨δ, rfl⟩))
            generalize δ.wd = W6 at *
            go_wp2_with fail
            go_ret
            exact ⟨by rw [HF.out]; rfl, HX6.out⟩
          · have HF := Lib.hid (HML.out rfl)
            clear HML HMN
            go_wp2_with fail
            try go_frame
            refine wp_region_bext (by kernel_rfl) (by kernel_rfl) ?_
            repeat (any_goals (go_big_quiet_step ((go_at_call 88; with_reducible exact bext_call (HFQ.out _ (ext_of _))))))
            all_goals refine wpQuiet_nil ?_
            all_goals rintro _ ⟨δ, rfl⟩
            have HX6 := Lib.hid (HXI.out.trans (show Ext wr δ.wd from ⟨δ, rfl⟩))
            generalize δ.wd = W6 at *
            go_wp2_with fail
            go_roundw
            case rel => exact ⟨i + 1, by omega, by go_num, HF, HX6.out⟩
            case measure => simp [intOf]; omega
        · obtain rfl : i = j := by omega
          have HF := Lib.hid (HOK.out (loopMB_ok (by rw [HLN.out]; omega) (by rw [HLN.out]; exact HD.out) (by rw [HLN.out]; exact HM.out)))
          clear hx
          go_wp2_with fail
          go_ret
          exact ⟨by rw [HF.out]; rfl, HX1.out.trans (HX.out.trans HXI.out)⟩
end Go.Proofs.Ytgeapenglcohfaa
