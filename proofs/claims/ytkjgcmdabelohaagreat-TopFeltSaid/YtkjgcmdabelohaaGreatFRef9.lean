/- barleycornref09.Check and Great of any picture: they return. Condition: its slices read as lists. -/
import Derived.Test.YtkjgcmdabelohaaGreatMHeads
namespace Go.Proofs.YtkjgcmdabelohaaGreat
open Go.RowKit

theorem within9_any (n lo hi : Int) (w : World) : Calls Tryz.prog 44 #[.int .i64 n, .int .i64 lo, .int .i64 hi] w fun e w' => e = .returned (.bool (inB lo hi n)) ∧ w = w' := by
  by_cases h1 : lo ≤ n
  · by_cases h2 : n ≤ hi
    · have HE := Lib.hid (show inB lo hi n = true from inB_iff.2 ⟨h1, h2⟩)
      go_enter Tryz.func44, Tryz.ntmps44
      go_wp2
      go_ret
      exact ⟨ret_b HE.out.symm, rfl⟩
    · have HE := Lib.hid (show inB lo hi n = false from by rw [← Bool.not_eq_true, inB_iff]; omega)
      have s2 := decide_eq_false h2
      go_enter Tryz.func44, Tryz.ntmps44
      go_wp2
      go_ret
      exact ⟨ret_b HE.out.symm, rfl⟩
  · have HE := Lib.hid (show inB lo hi n = false from by rw [← Bool.not_eq_true, inB_iff]; omega)
    have s1 := decide_eq_false h1
    go_enter Tryz.func44, Tryz.ntmps44
    go_wp2
    go_ret
    exact ⟨ret_b HE.out.symm, rfl⟩
def Ref9Ret (w : World) (e : Ending) (w' : World) : Prop := ∃ z, e = .returned (.int .i64 z) ∧ Ext w w'
def Ref9B (w : World) (e : Ending) (w' : World) : Prop := ∃ b, e = .returned (.bool b) ∧ Ext w w'
theorem steps9_any (hv rv : Value) (p : PicR) (w : World) (h : PicRIs w hv rv p) :
    Calls Tryz.prog 43 #[p.val hv rv] w fun e w' => e = .returned (.int .i64 (((p.hs[0]?.getD ([], [])).1.length : Nat) : Int)) ∧ Ext w w' := by
  obtain ⟨A, hn, hc, rfl, hhn, hhm, hrow⟩ := h.hs.open_
  obtain ⟨AR, nr, cr, rfl, -, -, -, -⟩ := h.rd.open_
  obtain ⟨hs, tl, tu, al, au, rd⟩ := p
  simp only at hhn hrow ⊢
  by_cases h0 : hn = 0
  · have HE := Lib.hid (show ((((hs[0]?.getD ([], [])).1.length : Nat) : Int)) = 0 by rw [List.length_eq_zero_iff.1 (hhn.trans h0)]; rfl)
    have h0i : (hn : Int) = 0 := by omega
    rw [HE.out]
    clear h hrow hhn HE
    go_enter Tryz.func43, Tryz.ntmps43
    go_wp2_with fail
    go_ret
    exact ⟨rfl, (Ext.refl _).alloc _⟩
  · obtain ⟨b, o, Ta, Tb, rfl, c0, -, i0, -⟩ := hrow 0 (by omega)
    obtain ⟨Av, n, cv⟩ := Ta
    simp only [rowH, Nat.zero_mul, Nat.add_zero] at c0 i0
    obtain ⟨_, _, _, he0, -, hzr, hzm⟩ := i0.open_
    simp only [Value.slice.injEq] at he0
    obtain ⟨rfl, rfl, rfl⟩ := he0
    have HE := Lib.hid (show (((hs[0]?.getD ([], [])).1.length : Nat) : Int) = (n : Int) by rw [List.getElem?_eq_getElem (by omega), Option.getD_some, hzr.len])
    have h0i : ¬ (hn : Int) = 0 := by omega
    have hn0 : 0 < hn := by omega
    rw [HE.out]
    have lc := cell_lt c0
    clear h hrow hhn HE i0 hzr
    go_enter Tryz.func43, Tryz.ntmps43
    go_wp2_with fail
    go_ret
    exact ⟨rfl, (Ext.refl _).alloc _⟩
set_option maxRecDepth 100000 in
set_option maxHeartbeats 16000000 in
theorem ref9Check_any (hv rv : Value) (p : PicR) (w : World) (h : PicRIs w hv rv p) : Calls Tryz.prog 21 #[p.val hv rv] w (Ref9Ret w) := by
  have HS := Lib.hid fun (W : World) (x : Ext w W) => steps9_any hv rv p W (h.ext x)
  obtain ⟨hhs, hrd⟩ := h
  obtain ⟨A, hn, hc, rfl, hhn, hhm, hrow⟩ := hhs.open_
  obtain ⟨AR, nr, cr, rfl, hrn, hrA, hrR, hrm⟩ := hrd.open_
  have HW := Lib.hid fun (x lo hi : Int) (W : World) (hx : inB lo hi x = true) => (show Calls Tryz.prog 44 #[.int .i64 x, .int .i64 lo, .int .i64 hi] W fun e w' => e = .returned (.bool true) ∧ W = w' from by
    have := within9_any x lo hi W
    rwa [hx] at this)
  have HWF := Lib.hid fun (x lo hi : Int) (W : World) (hx : inB lo hi x = false) => (show Calls Tryz.prog 44 #[.int .i64 x, .int .i64 lo, .int .i64 hi] W fun e w' => e = .returned (.bool false) ∧ W = w' from by
    have := within9_any x lo hi W
    rwa [hx] at this)
  obtain ⟨hs, tl, tu, al, au, rd⟩ := p
  simp only at hhn hrn hrow hrR HS ⊢
  have HHN := Lib.hid hhn
  have HRN := Lib.hid hrn
  have HRW := Lib.hid hrow
  have HRR := Lib.hid hrR
  obtain ⟨n, hn0⟩ : ∃ z, z = (hs[0]?.getD ([], [])).1.length := ⟨_, rfl⟩
  rw [← hn0] at HS
  have hn96 : n ≤ 9223372036854775807 := by
    rw [hn0]
    by_cases h0 : 0 < hs.length
    · obtain ⟨_, _, _, _, _, _, _, i0, _⟩ := hrow 0 h0
      have := i0.len
      rw [List.getElem?_eq_getElem h0, Option.getD_some]
      simpa [maxLen] using this
    · rw [List.getElem?_eq_none (by omega)]
      simp
  clear hhs hrd hhn hrn hrow hrR hrA hn0
  by_cases hh4 : 1 ≤ hn ∧ hn ≤ 4
  · by_cases hr6 : 1 ≤ nr ∧ nr ≤ 60
    · have HROW := Lib.hid fun (i : Nat) (hi : i < hn) => HRW.out i (by rw [HHN.out]; exact hi)
      obtain ⟨hb, ho, -, -, hA, -⟩ := HRW.out 0 (by rw [HHN.out]; omega)
      subst hA
      clear HRW
      have HB0 := Lib.hid (BoxAt.new w #[.slice (some ⟨hb, ho, none⟩) hn hc, .int .i64 tl, .int .i64 tu, .int .i64 al, .int .i64 au, .slice AR nr cr] 28)
      go_enter Tryz.func21, Tryz.ntmps21
      go_wp2_with fail
      refine (HS.out _ ((Ext.refl _).alloc _)).mono ?_
      rintro e W1 ⟨rfl, x1⟩
      have HX1 := Lib.hid (((Ext.refl w).alloc _).trans x1)
      have HB1 := Lib.hid (HB0.out.ext x1)
      have q0 := HB1.out.cell (i := 0) rfl
      have q5 := HB1.out.cell (i := 5) rfl
      have lq := cell_lt q0
      clear x1
      go_wp2_with (first | (go_at_call 44; refine (HW.out _ _ _ _ (by rw [inB_iff]; omega)).mono ?_; rintro e w' ⟨rfl, rfl⟩) | (go_at_call 44; refine (HWF.out _ _ _ _ (by rw [← Bool.not_eq_true, inB_iff]; omega)).mono ?_; rintro e w' ⟨rfl, rfl⟩))
      clear q0 q5 lq
      go_loopw [4] (fun iv W => ∃ i : Nat, i ≤ hn ∧ iv = .int .i64 (i : Int) ∧ Ext W1 W) (fun iv _ => hn - (intOf iv).toNat)
      case atStart => exact ⟨0, by omega, rfl, Ext.refl _⟩
      case round =>
        obtain ⟨i, hi, rfl, hx⟩ := hrel
        have HX := Lib.hid hx
        have q0 := (HB1.out.ext hx).cell (i := 0) rfl
        have lq := cell_lt q0
        by_cases hin : i < hn
        · obtain ⟨b, o, Ta, Tb, hA, d0, d1, j0, j1⟩ := HROW.out i hin
          simp only [Option.some.injEq, Addr.mk.injEq, and_true] at hA
          obtain ⟨rfl, rfl⟩ := hA
          obtain ⟨Ai, ni, ci⟩ := Ta
          obtain ⟨Aj, nj, cj⟩ := Tb
          simp only [rowH] at d0 d1 j0 j1
          have HC := Lib.hid fun (W : World) (x : Ext w W) => refCheck_any (.slice Ai ni ci) _ W (j0.ext x)
          have HR := Lib.hid fun (W : World) (x : Ext w W) => refCheckRubber_any (.slice Aj nj cj) _ (n : Int) W (j1.ext x)
          obtain ⟨ec, hec⟩ : ∃ z, z = checkE (hs[i]'(by rw [HHN.out]; exact hin)).1 := ⟨_, rfl⟩
          rw [← hec] at HC
          obtain ⟨er, her⟩ : ∃ z, z = rubberE (hs[i]'(by rw [HHN.out]; exact hin)).2 (n : Int) := ⟨_, rfl⟩
          rw [← her] at HR
          replace d0 := (HX1.out.trans hx).cell_some d0
          replace d1 := (HX1.out.trans hx).cell_some d1
          have ld := cell_lt d0
          have hii : (i : Int) < (hn : Int) := by omega
          clear hx j0 j1 hec her
          by_cases e2 : ec = 0
          · subst e2
            by_cases e1 : ni = n
            · have e1i : (ni : Int) = (n : Int) := by omega
              clear e1
              by_cases e3 : er = 0
              · subst e3
                go_wp2_with (first
                  | (go_at_call 45; refine (HC.out _ ((HX1.out.trans HX.out).alloc _)).mono ?_; rintro e w' ⟨rfl, rfl⟩)
                  | (go_at_call 46; refine (HR.out _ ((HX1.out.trans HX.out).alloc _)).mono ?_; rintro e w' ⟨rfl, rfl⟩))
                go_roundw
                case rel => exact ⟨i + 1, by omega, by go_num, HX.out.alloc _⟩
                case measure => simp [intOf]; omega
              · go_wp2_with (first
                  | (go_at_call 45; refine (HC.out _ ((HX1.out.trans HX.out).alloc _)).mono ?_; rintro e w' ⟨rfl, rfl⟩)
                  | (go_at_call 46; refine (HR.out _ ((HX1.out.trans HX.out).alloc _)).mono ?_; rintro e w' ⟨rfl, rfl⟩))
                go_ret
                exact ⟨90, rfl, (HX1.out.trans HX.out).alloc _⟩
            · have e1i : ¬ (ni : Int) = (n : Int) := by omega
              go_wp2_with (go_at_call 45; refine (HC.out _ ((HX1.out.trans HX.out).alloc _)).mono ?_; rintro e w' ⟨rfl, rfl⟩)
              go_ret
              exact ⟨90, rfl, (HX1.out.trans HX.out).alloc _⟩
          · go_wp2_with (go_at_call 45; refine (HC.out _ ((HX1.out.trans HX.out).alloc _)).mono ?_; rintro e w' ⟨rfl, rfl⟩)
            go_ret
            exact ⟨90, rfl, (HX1.out.trans HX.out).alloc _⟩
        · have hii : ¬ (i : Int) < (hn : Int) := by omega
          have q1 := (HB1.out.ext hx).cell (i := 1) rfl
          have q2 := (HB1.out.ext hx).cell (i := 2) rfl
          have q3 := (HB1.out.ext hx).cell (i := 3) rfl
          have q4 := (HB1.out.ext hx).cell (i := 4) rfl
          have q5 := (HB1.out.ext hx).cell (i := 5) rfl
          clear hx
          by_cases n0 : tl < 1
          · go_wp2_with fail
            go_ret
            exact ⟨90, rfl, HX1.out.trans HX.out⟩
          · skip
            by_cases n1 : tu < tl
            · have s0 := decide_eq_false n0
              go_wp2_with fail
              go_ret
              exact ⟨90, rfl, HX1.out.trans HX.out⟩
            · skip
              by_cases n2 : 16 < tu
              · have s0 := decide_eq_false n0
                have s1 := decide_eq_false n1
                go_wp2_with fail
                go_ret
                exact ⟨90, rfl, HX1.out.trans HX.out⟩
              · skip
                by_cases n3 : al < -1000
                · have s0 := decide_eq_false n0
                  have s1 := decide_eq_false n1
                  have s2 := decide_eq_false n2
                  go_wp2_with fail
                  go_ret
                  exact ⟨90, rfl, HX1.out.trans HX.out⟩
                · skip
                  by_cases n4 : au < al
                  · have s0 := decide_eq_false n0
                    have s1 := decide_eq_false n1
                    have s2 := decide_eq_false n2
                    have s3 := decide_eq_false n3
                    go_wp2_with fail
                    go_ret
                    exact ⟨90, rfl, HX1.out.trans HX.out⟩
                  · skip
                    by_cases n5 : 1000 < au
                    · have s0 := decide_eq_false n0
                      have s1 := decide_eq_false n1
                      have s2 := decide_eq_false n2
                      have s3 := decide_eq_false n3
                      have s4 := decide_eq_false n4
                      go_wp2_with fail
                      go_ret
                      exact ⟨90, rfl, HX1.out.trans HX.out⟩
                    · skip
                      by_cases n6 : 40 < au - al
                      · have wq : IntKind.i64.wrap (au - al) = au - al := IntWalk.i64_in _ (by omega)
                        have s0 := decide_eq_false n0
                        have s1 := decide_eq_false n1
                        have s2 := decide_eq_false n2
                        have s3 := decide_eq_false n3
                        have s4 := decide_eq_false n4
                        have s5 := decide_eq_false n5
                        go_wp2_with fail
                        go_ret
                        exact ⟨90, rfl, HX1.out.trans HX.out⟩
                      · skip
                        have wq : IntKind.i64.wrap (au - al) = au - al := IntWalk.i64_in _ (by omega)
                        have s0 := decide_eq_false n0
                        have s1 := decide_eq_false n1
                        have s2 := decide_eq_false n2
                        have s3 := decide_eq_false n3
                        have s4 := decide_eq_false n4
                        have s5 := decide_eq_false n5
                        have s6 := decide_eq_false n6
                        clear n0 n1 n2 n3 n4 n5 n6
                        go_wp2_with fail
                        clear s0 s1 s2 s3 s4 s5 s6 q0 q1 q2 q3 q4 q5 lq wq
                        go_loopw [6] (fun iv W => ∃ q : Nat, q ≤ nr ∧ iv = .int .i64 (q : Int) ∧ Ext wr W) (fun iv _ => nr - (intOf iv).toNat)
                        case atStart => exact ⟨0, by omega, rfl, Ext.refl _⟩
                        case round =>
                          obtain ⟨q, hq, rfl, hy⟩ := hrel
                          have HY := Lib.hid hy
                          have q5 := (HB1.out.ext (HX.out.trans hy)).cell (i := 5) rfl
                          have lq := cell_lt q5
                          by_cases hqn : q < nr
                          · have hpl : q < rd.length := by rw [HRN.out]; exact hqn
                            obtain ⟨b2, o2, rfl, _, hcs⟩ := HRR.out q hpl
                            obtain ⟨rr, hrr⟩ : ∃ z, z = rd[q] := ⟨_, rfl⟩
                            rw [← hrr] at hcs
                            obtain ⟨cu, st, lo, hv⟩ := rr
                            have xw := HX1.out.trans (HX.out.trans hy)
                            have c0 := xw.cell_some (hcs 0 _ rfl)
                            have c1 := xw.cell_some (hcs 1 _ rfl)
                            have c2 := xw.cell_some (hcs 2 _ rfl)
                            have c3 := xw.cell_some (hcs 3 _ rfl)
                            simp only [readK, Nat.add_zero] at c0 c1 c2 c3
                            have lc := cell_lt c0
                            have hqq : (q : Int) < (nr : Int) := by omega
                            have w1 : IntKind.i64.wrap ((n : Int) - 1) = (n : Int) - 1 := IntWalk.i64_in _ (by omega)
                            clear hrr hcs xw hy hpl
                            by_cases r0 : ¬ (0 ≤ cu ∧ cu ≤ 11)
                            · go_wp2_with (first | (go_at_call 44; refine (HW.out _ _ _ _ (by rw [inB_iff]; omega)).mono ?_; rintro e w' ⟨rfl, rfl⟩) | (go_at_call 44; refine (HWF.out _ _ _ _ (by rw [← Bool.not_eq_true, inB_iff]; omega)).mono ?_; rintro e w' ⟨rfl, rfl⟩))
                              go_ret
                              exact ⟨90, rfl, HX1.out.trans (HX.out.trans (HY.out.alloc _))⟩
                            · skip
                              by_cases r1 : ¬ (0 ≤ st ∧ st ≤ (n : Int) - 1)
                              · go_wp2_with (first | (go_at_call 44; refine (HW.out _ _ _ _ (by rw [inB_iff]; omega)).mono ?_; rintro e w' ⟨rfl, rfl⟩) | (go_at_call 44; refine (HWF.out _ _ _ _ (by rw [← Bool.not_eq_true, inB_iff]; omega)).mono ?_; rintro e w' ⟨rfl, rfl⟩))
                                go_ret
                                exact ⟨90, rfl, HX1.out.trans (HX.out.trans (HY.out.alloc _))⟩
                              · skip
                                by_cases r2 : lo < -300000
                                · go_wp2_with (first | (go_at_call 44; refine (HW.out _ _ _ _ (by rw [inB_iff]; omega)).mono ?_; rintro e w' ⟨rfl, rfl⟩) | (go_at_call 44; refine (HWF.out _ _ _ _ (by rw [← Bool.not_eq_true, inB_iff]; omega)).mono ?_; rintro e w' ⟨rfl, rfl⟩))
                                  go_ret
                                  exact ⟨90, rfl, HX1.out.trans (HX.out.trans (HY.out.alloc _))⟩
                                · skip
                                  by_cases r3 : hv < lo
                                  · have s2 := decide_eq_false r2
                                    go_wp2_with (first | (go_at_call 44; refine (HW.out _ _ _ _ (by rw [inB_iff]; omega)).mono ?_; rintro e w' ⟨rfl, rfl⟩) | (go_at_call 44; refine (HWF.out _ _ _ _ (by rw [← Bool.not_eq_true, inB_iff]; omega)).mono ?_; rintro e w' ⟨rfl, rfl⟩))
                                    go_ret
                                    exact ⟨90, rfl, HX1.out.trans (HX.out.trans (HY.out.alloc _))⟩
                                  · skip
                                    by_cases r4 : 300000 < hv
                                    · have s2 := decide_eq_false r2
                                      have s3 := decide_eq_false r3
                                      go_wp2_with (first | (go_at_call 44; refine (HW.out _ _ _ _ (by rw [inB_iff]; omega)).mono ?_; rintro e w' ⟨rfl, rfl⟩) | (go_at_call 44; refine (HWF.out _ _ _ _ (by rw [← Bool.not_eq_true, inB_iff]; omega)).mono ?_; rintro e w' ⟨rfl, rfl⟩))
                                      go_ret
                                      exact ⟨90, rfl, HX1.out.trans (HX.out.trans (HY.out.alloc _))⟩
                                    · skip
                                      have s2 := decide_eq_false r2
                                      have s3 := decide_eq_false r3
                                      have s4 := decide_eq_false r4
                                      clear r2 r3 r4
                                      go_wp2_with (first | (go_at_call 44; refine (HW.out _ _ _ _ (by rw [inB_iff]; omega)).mono ?_; rintro e w' ⟨rfl, rfl⟩) | (go_at_call 44; refine (HWF.out _ _ _ _ (by rw [← Bool.not_eq_true, inB_iff]; omega)).mono ?_; rintro e w' ⟨rfl, rfl⟩))
                                      go_roundw
                                      case rel => exact ⟨q + 1, by omega, by go_num, HY.out.alloc _⟩
                                      case measure => simp [intOf]; omega
                          · have hqq : ¬ (q : Int) < (nr : Int) := by omega
                            clear hy
                            go_wp2_with fail
                            go_ret
                            exact ⟨0, rfl, HX1.out.trans (HX.out.trans HY.out)⟩
    · have HB0 := Lib.hid (BoxAt.new w #[.slice A hn hc, .int .i64 tl, .int .i64 tu, .int .i64 al, .int .i64 au, .slice AR nr cr] 28)
      clear HRW HRR
      go_enter Tryz.func21, Tryz.ntmps21
      go_wp2_with fail
      refine (HS.out _ ((Ext.refl _).alloc _)).mono ?_
      rintro e W1 ⟨rfl, x1⟩
      have HX1 := Lib.hid (((Ext.refl w).alloc _).trans x1)
      have HB1 := Lib.hid (HB0.out.ext x1)
      have q0 := HB1.out.cell (i := 0) rfl
      have q5 := HB1.out.cell (i := 5) rfl
      have lq := cell_lt q0
      clear x1
      go_wp2_with (first | (go_at_call 44; refine (HW.out _ _ _ _ (by rw [inB_iff]; omega)).mono ?_; rintro e w' ⟨rfl, rfl⟩) | (go_at_call 44; refine (HWF.out _ _ _ _ (by rw [← Bool.not_eq_true, inB_iff]; omega)).mono ?_; rintro e w' ⟨rfl, rfl⟩))
      go_ret
      exact ⟨90, rfl, HX1.out⟩
  · have HB0 := Lib.hid (BoxAt.new w #[.slice A hn hc, .int .i64 tl, .int .i64 tu, .int .i64 al, .int .i64 au, .slice AR nr cr] 28)
    clear HRW HRR
    go_enter Tryz.func21, Tryz.ntmps21
    go_wp2_with fail
    refine (HS.out _ ((Ext.refl _).alloc _)).mono ?_
    rintro e W1 ⟨rfl, x1⟩
    have HX1 := Lib.hid (((Ext.refl w).alloc _).trans x1)
    have HB1 := Lib.hid (HB0.out.ext x1)
    have q0 := HB1.out.cell (i := 0) rfl
    have q5 := HB1.out.cell (i := 5) rfl
    have lq := cell_lt q0
    clear x1
    go_wp2_with (first | (go_at_call 44; refine (HW.out _ _ _ _ (by rw [inB_iff]; omega)).mono ?_; rintro e w' ⟨rfl, rfl⟩) | (go_at_call 44; refine (HWF.out _ _ _ _ (by rw [← Bool.not_eq_true, inB_iff]; omega)).mono ?_; rintro e w' ⟨rfl, rfl⟩))
    go_ret
    exact ⟨90, rfl, HX1.out⟩
set_option maxRecDepth 100000 in
set_option maxHeartbeats 8000000 in
theorem great9_any (hv rv : Value) (p : PicR) (w : World) (h : PicRIs w hv rv p) : Calls Tryz.prog 6 #[p.val hv rv] w (Ref9B w) := by
  have HC := Lib.hid fun (W : World) (x : Ext w W) => ref9Check_any hv rv p W (h.ext x)
  obtain ⟨hhs, hrd⟩ := h
  obtain ⟨A, hn, hc, rfl, hhn, hhm, hrow⟩ := hhs.open_
  obtain ⟨AR, nr, cr, rfl, -, -, -, hrm⟩ := hrd.open_
  obtain ⟨hs, tl, tu, al, au, rd⟩ := p
  simp only at hhn hrow HC ⊢
  have HHN := Lib.hid hhn
  have HROW := Lib.hid fun (i : Nat) (hi : i < hn) => hrow i (by rw [HHN.out]; exact hi)
  have HB0 := Lib.hid (BoxAt.new w #[.slice A hn hc, .int .i64 tl, .int .i64 tu, .int .i64 al, .int .i64 au, .slice AR nr cr] 28)
  clear hhs hrd hhn hrow
  by_cases h6 : (6 : Int) < (hn : Int)
  · go_enter Tryz.func6, Tryz.ntmps6
    go_wp2_with fail
    go_ret
    exact ⟨true, rfl, (Ext.refl _).alloc _⟩
  · by_cases h7 : (70 : Int) < (nr : Int)
    · have s6 := decide_eq_false h6
      go_enter Tryz.func6, Tryz.ntmps6
      go_wp2_with fail
      go_ret
      exact ⟨true, rfl, (Ext.refl _).alloc _⟩
    · have s6 := decide_eq_false h6
      have s7 := decide_eq_false h7
      go_enter Tryz.func6, Tryz.ntmps6
      go_wp2_with fail
      refine lay_wp (fun W => BoxAt w.heap.size #[.slice A hn hc, .int .i64 tl, .int .i64 tu, .int .i64 al, .int .i64 au, .slice AR nr cr] 28 W ∧ Ext w W) ⟨HB0.out, (Ext.refl _).alloc _⟩ ?_
      rintro W1 ⟨b1, x1⟩
      have HB1 := Lib.hid b1
      have HX1 := Lib.hid x1
      clear b1 x1 s6 s7
      go_loopw [3] (fun iv W => ∃ i : Nat, i ≤ hn ∧ iv = .int .i64 (i : Int) ∧ Ext W1 W) (fun iv _ => hn - (intOf iv).toNat)
      case atStart => exact ⟨0, by omega, rfl, Ext.refl _⟩
      case round =>
        obtain ⟨i, hi, rfl, hx⟩ := hrel
        have HX := Lib.hid hx
        have q0 := (HB1.out.ext hx).cell (i := 0) rfl
        have lq := cell_lt q0
        by_cases hin : i < hn
        · obtain ⟨b, o, Ta, Tb, rfl, d0, d1, -, -⟩ := HROW.out i hin
          obtain ⟨Ai, ni, ci⟩ := Ta
          obtain ⟨Aj, nj, cj⟩ := Tb
          simp only [rowH] at d0 d1
          replace d0 := (HX1.out.trans hx).cell_some d0
          replace d1 := (HX1.out.trans hx).cell_some d1
          have ld := cell_lt d0
          have hii : (i : Int) < (hn : Int) := by omega
          clear hx
          by_cases g1 : (24 : Int) < (ni : Int)
          · go_wp2_with fail
            go_ret
            exact ⟨true, rfl, HX1.out.trans HX.out⟩
          · have s1 := decide_eq_false g1
            by_cases g2 : (40 : Int) < (nj : Int)
            · go_wp2_with fail
              go_ret
              exact ⟨true, rfl, HX1.out.trans HX.out⟩
            · have s2 := decide_eq_false g2
              go_wp2_with fail
              go_roundw
              case rel => exact ⟨i + 1, by omega, by go_num, HX.out⟩
              case measure => simp [intOf]; omega
        · have hii : ¬ (i : Int) < (hn : Int) := by omega
          have q1 := (HB1.out.ext hx).cell (i := 1) rfl
          have q2 := (HB1.out.ext hx).cell (i := 2) rfl
          have q3 := (HB1.out.ext hx).cell (i := 3) rfl
          have q4 := (HB1.out.ext hx).cell (i := 4) rfl
          have q5 := (HB1.out.ext hx).cell (i := 5) rfl
          clear hx
          go_wp2_with fail
          refine (HC.out _ (HX1.out.trans HX.out)).mono ?_
          rintro e W2 ⟨z, rfl, x2⟩
          have HX2 := Lib.hid ((HX1.out.trans HX.out).trans x2)
          have HB2 := Lib.hid ((HB1.out.ext HX.out).ext x2)
          clear x2 q0 q1 q2 q3 q4 q5 lq
          have q0 := HB2.out.cell (i := 0) rfl
          have q1 := HB2.out.cell (i := 1) rfl
          have q2 := HB2.out.cell (i := 2) rfl
          have q3 := HB2.out.cell (i := 3) rfl
          have q4 := HB2.out.cell (i := 4) rfl
          have lq := cell_lt q0
          by_cases hz : z = 0
          · subst hz
            go_wp2_with fail
            go_ret
            exact ⟨_, rfl, HX2.out⟩
          · go_wp2_with fail
            go_ret
            exact ⟨_, rfl, HX2.out⟩
end Go.Proofs.YtkjgcmdabelohaaGreat
