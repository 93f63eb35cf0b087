/- groove.CheckLoop. Condition: the work's cuts and the list read. -/
import Derived.Test.YtgeapenglcohfaaGDiff
import Derived.Test.YtgeapenglcohfaaGRules
namespace Go.Proofs.Ytgeapenglcohfaa
open Go.RowKit

/-- Each rule leads from one to the next. -/
def chnB (M : Nat → Nat → Bool) : Int → List Int → Bool
  | _, [] => true
  | last, x :: xs => M last.toNat x.toNat && chnB M x xs
def loopB (k : WkT) (l : List Int) : Bool := (decide (2 ≤ l.length) && diffB l k.cuts.length) && chnB (ruleM k) (l[l.length - 1]?.getD 0) l
def chkLE (k : WkT) (l : List Int) : Int := if workB k then (if loopB k l then 0 else 53) else 51
theorem diffTo_at {l : List Int} {n : Int} : ∀ {j : Nat}, diffTo l n j = true → ∀ i, i < j → 0 ≤ l[i]?.getD 0 ∧ l[i]?.getD 0 < n
  | 0, _, i, hi => by omega
  | j + 1, h, i, hi => by
    unfold diffTo at h
    simp only [Bool.and_eq_true, decide_eq_true_eq] at h
    rcases (by omega : i < j ∨ i = j) with h1 | rfl
    · exact diffTo_at h.1 i h1
    · exact ⟨h.2.1.1, h.2.1.2⟩
theorem steps_drop (M : Nat → Nat → Bool) {l : List Int} {j : Nat} (h : j < l.length) (la : Int) : chnB M la (l.drop j) = (M la.toNat (l[j]?.getD 0).toNat && chnB M (l[j]?.getD 0) (l.drop (j + 1))) := by
  rw [List.drop_eq_getElem_cons h, List.getElem?_eq_getElem h]
  rfl

set_option maxRecDepth 100000 in
set_option maxHeartbeats 4000000 in
theorem checkLoop_any (k : WkT) (v : Value) (u : Value) (l : List Int) (w : World) (hI : CutsIs w v k.cuts) (hJ : IsI w u l) :
    Calls Try.prog 45 #[k.val v, u] w fun e w' => e = .returned (.int .i64 (chkLE k l)) ∧ Ext w w' := by
  obtain ⟨A, c, rfl, -⟩ := cutsIs_at hI
  cases hb : workB k
  · have HW := Lib.hid fun (W : World) (x : Ext w W) => check_no (k := k) (hI.ext x) hb
    have HR := Lib.hid (show chkLE k l = 51 from if_neg (by rw [hb]; exact Bool.false_ne_true))
    obtain ⟨A', n', c', rfl, -⟩ := hJ.open_
    clear hb hI hJ
    go_enter Try.func45, Try.ntmps45
    go_wp2_with fail
    refine (HW.out _ (by (repeat' (first | with_reducible exact Ext.refl _ | with_reducible apply Ext.alloc | with_reducible apply Ext.drew | with_reducible apply Ext.drewN | with_reducible refine Ext.setCell ?_ ?_ _ | with_reducible apply Ext.step | with_reducible assumption | with_reducible exact Nat.le_refl _ | (simp; done) | (simp; omega))))).mono ?_
    rintro e W1 ⟨rfl, x1⟩
    have HX1 := Lib.hid (show Ext w W1 from Ext.trans (by (repeat' (first | with_reducible exact Ext.refl _ | with_reducible apply Ext.alloc | with_reducible apply Ext.drew | with_reducible apply Ext.drewN | with_reducible refine Ext.setCell ?_ ?_ _ | with_reducible apply Ext.step | with_reducible assumption | with_reducible exact Nat.le_refl _ | (simp; done) | (simp; omega)))) x1)
    clear x1
    go_wp2_with fail
    go_ret
    exact ⟨by rw [HR.out]; rfl, HX1.out⟩
  have HW := Lib.hid fun (W : World) (x : Ext w W) => check_ok (k := k) (hI.ext x) hb
  have HS := Lib.hid fun (W : World) (x : Ext w W) => rulesOf_any k _ W (hI.ext x) hb
  obtain ⟨_, _, h16, _⟩ := workB_iff.1 hb
  have HDI := Lib.hid fun (W : World) (x : Ext w W) => different_any u l k.cuts.length W (hJ.ext x) h16
  have HR := Lib.hid (show chkLE k l = if loopB k l then 0 else 53 from if_pos hb)
  have HLB := Lib.hid (show loopB k l = ((decide (2 ≤ l.length) && diffB l k.cuts.length) && chnB (ruleM k) (l[l.length - 1]?.getD 0) l) from rfl)
  obtain ⟨n, hn⟩ : ∃ n, n = k.cuts.length := ⟨_, rfl⟩
  obtain ⟨M, hM⟩ : ∃ M, M = ruleM k := ⟨_, rfl⟩
  rw [← hn] at HW HS HDI h16 ⊢
  rw [← hn, ← hM] at HLB
  rw [← hM] at HS
  obtain ⟨A', m, c', rfl, -, hr, hmm⟩ := hJ.open_
  have HQ := Lib.hid hr
  have HLN := Lib.hid hr.len
  rw [hr.len] at HLB
  clear hb hn hI hM hJ hr
  by_cases hm2 : m < 2
  · have HF := Lib.hid (show chkLE k l = 53 by rw [HR.out, HLB.out, decide_eq_false (by omega)]; rfl)
    have q1 : decide ((m : Int) < 2) = true := by simp; omega
    clear hm2
    go_enter Try.func45, Try.ntmps45
    go_wp2_with fail
    refine (HW.out _ (by (repeat' (first | with_reducible exact Ext.refl _ | with_reducible apply Ext.alloc | with_reducible apply Ext.drew | with_reducible apply Ext.drewN | with_reducible refine Ext.setCell ?_ ?_ _ | with_reducible apply Ext.step | with_reducible assumption | with_reducible exact Nat.le_refl _ | (simp; done) | (simp; omega))))).mono ?_
    rintro e W1 ⟨rfl, x1⟩
    have HX1 := Lib.hid (show Ext w W1 from Ext.trans (by (repeat' (first | with_reducible exact Ext.refl _ | with_reducible apply Ext.alloc | with_reducible apply Ext.drew | with_reducible apply Ext.drewN | with_reducible refine Ext.setCell ?_ ?_ _ | with_reducible apply Ext.step | with_reducible assumption | with_reducible exact Nat.le_refl _ | (simp; done) | (simp; omega)))) x1)
    clear x1
    go_wp2_with fail
    go_ret
    exact ⟨by rw [HF.out]; rfl, HX1.out⟩
  have q1 : decide ((m : Int) < 2) = false := by simp; omega
  cases hd : diffB l n
  · have HF := Lib.hid (show chkLE k l = 53 by rw [HR.out, HLB.out, hd, Bool.and_false, Bool.false_and]; rfl)
    rw [hd] at HDI
    clear hm2 hd
    go_enter Try.func45, Try.ntmps45
    go_wp2_with fail
    refine (HW.out _ (by (repeat' (first | with_reducible exact Ext.refl _ | with_reducible apply Ext.alloc | with_reducible apply Ext.drew | with_reducible apply Ext.drewN | with_reducible refine Ext.setCell ?_ ?_ _ | with_reducible apply Ext.step | with_reducible assumption | with_reducible exact Nat.le_refl _ | (simp; done) | (simp; omega))))).mono ?_
    rintro e W1 ⟨rfl, x1⟩
    have HX1 := Lib.hid (show Ext w W1 from Ext.trans (by (repeat' (first | with_reducible exact Ext.refl _ | with_reducible apply Ext.alloc | with_reducible apply Ext.drew | with_reducible apply Ext.drewN | with_reducible refine Ext.setCell ?_ ?_ _ | with_reducible apply Ext.step | with_reducible assumption | with_reducible exact Nat.le_refl _ | (simp; done) | (simp; omega)))) x1)
    obtain ⟨h0, h1, h2, h3, h4, h5, h6, h7, h8, h9, h10, h11, h12⟩ := (WkAt.new k (.slice A n c) w).ext x1
    have lh12 := cell_lt h12
    clear x1 h0 h1 h2 h3 h4 h5 h6 h7 h8 h9 h10 h11
    go_wp2_with fail
    refine (HDI.out _ HX1.out).mono ?_
    rintro e W2 ⟨rfl, x2⟩
    have HX2 := Lib.hid (HX1.out.trans x2)
    clear x2
    go_wp2_with fail
    go_ret
    exact ⟨by rw [HF.out]; rfl, HX2.out⟩
  have HDA := Lib.hid (diffTo_at (show diffTo l n m = true by unfold diffB at hd; rwa [HLN.out] at hd))
  have HG := Lib.hid (show chkLE k l = if chnB M (l[m - 1]?.getD 0) l then 0 else 53 by
    rw [HR.out, HLB.out, hd, decide_eq_true (show 2 ≤ m by omega), Bool.and_self, Bool.true_and])
  rw [hd] at HDI
  obtain ⟨b, o, rfl, hbo, cl⟩ := HQ.out.at_ (m - 1) (by omega)
  have hnat : ((m - 1 : Nat) : Int) = (m : Int) - 1 := by omega
  have hg1 : (0 : Int) ≤ (m : Int) - 1 := by omega
  have hg2 : (m : Int) - 1 < (m : Int) := by omega
  have hw1 : IntKind.i64.wrap ((m : Int) - 1) = (m : Int) - 1 := by apply IntWalk.i64_in <;> omega
  have hla := HDA.out (m - 1) (by omega)
  generalize l[m - 1]?.getD 0 = la0 at *
  clear hd hm2 hbo
  go_enter Try.func45, Try.ntmps45
  go_wp2_with fail
  refine (HW.out _ (by (repeat' (first | with_reducible exact Ext.refl _ | with_reducible apply Ext.alloc | with_reducible apply Ext.drew | with_reducible apply Ext.drewN | with_reducible refine Ext.setCell ?_ ?_ _ | with_reducible apply Ext.step | with_reducible assumption | with_reducible exact Nat.le_refl _ | (simp; done) | (simp; omega))))).mono ?_
  rintro e W1 ⟨rfl, x1⟩
  have HX1 := Lib.hid (show Ext w W1 from Ext.trans (by (repeat' (first | with_reducible exact Ext.refl _ | with_reducible apply Ext.alloc | with_reducible apply Ext.drew | with_reducible apply Ext.drewN | with_reducible refine Ext.setCell ?_ ?_ _ | with_reducible apply Ext.step | with_reducible assumption | with_reducible exact Nat.le_refl _ | (simp; done) | (simp; omega)))) x1)
  obtain ⟨h0, h1, h2, h3, h4, h5, h6, h7, h8, h9, h10, h11, h12⟩ := (WkAt.new k (.slice A n c) w).ext x1
  have lh12 := cell_lt h12
  have HA1 := Lib.hid ((WkAt.new k (.slice A n c) w).ext x1)
  clear x1 h0 h1 h2 h3 h4 h5 h6 h7 h8 h9 h10 h11
  go_wp2_with fail
  refine (HDI.out _ HX1.out).mono ?_
  rintro e W2 ⟨rfl, x2⟩
  have HX2 := Lib.hid (HX1.out.trans x2)
  obtain ⟨h0, h1, h2, h3, h4, h5, h6, h7, h8, h9, h10, h11, g12⟩ := HA1.out.ext x2
  have lh0 := cell_lt h0
  clear x2 h12 lh12
  go_wp2_with fail
  refine (HS.out _ HX2.out).mono ?_
  rintro e W3 ⟨g, rfl, hmat, hg, x3⟩
  have HX3 := Lib.hid (HX2.out.trans x3)
  have HMT := Lib.hid hmat
  replace cl := HX3.out.cell_some cl
  have lcl := cell_lt cl
  have lgm := hmat.lt
  clear x3 hmat hg h0 h1 h2 h3 h4 h5 h6 h7 h8 h9 h10 h11 g12 lh0
  go_wp2_with fail
  go_loopw [7, 36] (fun lv iv wr => ∃ (j : Nat) (la : Int), j ≤ m ∧ iv = .int .i64 (j : Int) ∧ lv = .int .i64 la ∧ (0 ≤ la ∧ la < (n : Int)) ∧ Hid (chnB M la0 l = chnB M la (l.drop j)) ∧ wr = W3) (fun _ iv _ => m - (intOf iv).toNat)
  case atStart => exact ⟨0, la0, by omega, rfl, rfl, hla, Lib.hid (by rw [List.drop_zero]), rfl⟩
  case round =>
    obtain ⟨j, la, hj, rfl, rfl, hla', HC, rfl⟩ := hrel
    by_cases hlt : j < m
    · obtain ⟨b', o', hbo', _, hc⟩ := HQ.out.at_ j hlt
      cases hbo'
      have hx := HDA.out j hlt
      have HCD := Lib.hid (steps_drop M (show j < l.length by rw [HLN.out]; exact hlt) la)
      replace hc := HX3.out.cell_some hc
      generalize l[j]?.getD 0 = x at *
      have lb := cell_lt hc
      have hji : (j : Int) < (m : Int) := by omega
      obtain ⟨p, rfl⟩ : ∃ p : Nat, la = (p : Int) := ⟨la.toNat, by omega⟩
      obtain ⟨q, rfl⟩ : ∃ q : Nat, x = (q : Int) := ⟨x.toNat, by omega⟩
      have hp16 : p < 16 := by omega
      have hq16 : q < 16 := by omega
      have hp16i : (p : Int) < 16 := by omega
      have hq16i : (q : Int) < 16 := by omega
      obtain ⟨s0, s1⟩ := HMT.out.at_ p q hp16 hq16
      rw [Int.toNat_natCast, Int.toNat_natCast] at HCD
      cases hMpq : M p q with
      | true =>
        have HNX := Lib.hid (show chnB M la0 l = chnB M (q : Int) (l.drop (j + 1)) by rw [HC.out, HCD.out, hMpq, Bool.true_and])
        rw [hMpq] at s0
        clear hMpq hlt HC HCD
        go_wp2_with fail
        go_roundw
        case rel => exact ⟨j + 1, q, by omega, by go_num, rfl, ⟨by omega, by omega⟩, HNX, trivial⟩
        case measure => simp [intOf]; omega
      | false =>
        have HF := Lib.hid (show chkLE k l = 53 by rw [HG.out, HC.out, HCD.out, hMpq]; rfl)
        rw [hMpq] at s0
        clear hMpq hlt HC HCD
        go_wp2_with fail
        go_ret
        exact ⟨by rw [HF.out]; rfl, HX3.out⟩
    · obtain rfl : j = m := by omega
      have HF := Lib.hid (show chkLE k l = 0 by
        rw [HG.out, HC.out, List.drop_of_length_le (by rw [HLN.out]; exact Nat.le_refl _)]
        rfl)
      clear HC
      go_wp2_with fail
      go_ret
      exact ⟨by rw [HF.out]; rfl, HX3.out⟩
end Go.Proofs.Ytgeapenglcohfaa
