/- read.valid and read.Check of any picture: whether it is valid. Condition: its slices read as lists. -/
import Derived.Test.YtkjgcmdabelohaaGreatMHeads
namespace Go.Proofs.YtkjgcmdabelohaaGreat
open Go.RowKit

theorem not_v {p : PicR} (h : ∀ n, PicV p n → False) : (false = true ↔ ∃ n, PicV p n) := ⟨fun e => (by cases e), fun ⟨n, hn⟩ => (h n hn).elim⟩
def ValRet (p : PicR) (w : World) (e : Ending) (w' : World) : Prop := ∃ b, e = .returned (.bool b) ∧ (b = true ↔ ∃ n, PicV p n) ∧ Ext w w'
def ChkRet (p : PicR) (w : World) (e : Ending) (w' : World) : Prop := ∃ z, e = .returned (.int .i64 z) ∧ (z = 0 ↔ ∃ n, PicV p n) ∧ Ext w w'
set_option maxRecDepth 100000 in
set_option maxHeartbeats 16000000 in
theorem valid_any (hv rv : Value) (p : PicR) (w : World) (h : PicRIs w hv rv p) :
    Calls Tryz.prog 35 #[p.val hv rv] w (ValRet p w) := by
  obtain ⟨hhs, hrd⟩ := h
  obtain ⟨A, hn, hc, rfl, hhn, hhm, hrow⟩ := hhs.open_
  obtain ⟨AR, nr, cr, rfl, hrn, hrA, hrR, hrm⟩ := hrd.open_
  have HW := Lib.hid fun (x lo hi : Int) (W : World) (hx : inB lo hi x = true) => (show Calls Tryz.prog 37 #[.int .i64 x, .int .i64 lo, .int .i64 hi] W fun e w' => e = .returned (.bool true) ∧ W = w' from by
    have := readWithin_any x lo hi W
    rwa [hx] at this)
  have HWF := Lib.hid fun (x lo hi : Int) (W : World) (hx : inB lo hi x = false) => (show Calls Tryz.prog 37 #[.int .i64 x, .int .i64 lo, .int .i64 hi] W fun e w' => e = .returned (.bool false) ∧ W = w' from by
    have := readWithin_any x lo hi W
    rwa [hx] at this)
  have HHN := Lib.hid hhn
  have HRN := Lib.hid hrn
  have HRW := Lib.hid hrow
  have HRR := Lib.hid hrR
  obtain ⟨P0, hP0⟩ : ∃ P0 : PicR, P0 = p := ⟨_, rfl⟩
  have HP := Lib.hid hP0
  obtain ⟨hs, tl, tu, al, au, rd⟩ := p
  simp only at HHN HRN HRW HRR
  rw [← hP0]
  have HVH := Lib.hid fun (n : Nat) (q : PicV P0 n) => (show PicV ⟨hs, tl, tu, al, au, rd⟩ n from hP0 ▸ q)
  have HVB := Lib.hid fun (n : Nat) (q : PicV ⟨hs, tl, tu, al, au, rd⟩ n) => (show PicV P0 n from hP0 ▸ q)
  have hval : P0.val (.slice A hn hc) (.slice AR nr cr) = .agg #[.slice A hn hc, .int .i64 tl, .int .i64 tu, .int .i64 al, .int .i64 au, .slice AR nr cr] := by rw [hP0]
  rw [hval]
  clear hhs hrd hhn hrn hrow hrR hP0 hval hrA
  by_cases hh4 : 1 ≤ hn ∧ hn ≤ 4
  · by_cases hr6 : 1 ≤ nr ∧ nr ≤ 60
    · obtain ⟨hb, ho, Ta, Tb, hA, c0, c1, i0, i1⟩ := HRW.out 0 (by rw [HHN.out]; omega)
      subst hA
      obtain ⟨Av, n, cv⟩ := Ta
      simp only [rowH, Nat.zero_mul, Nat.add_zero] at c0 i0
      obtain ⟨_, _, _, he0, -, hzr, hzm⟩ := i0.open_
      simp only [Value.slice.injEq] at he0
      obtain ⟨rfl, rfl, rfl⟩ := he0
      have HLN := Lib.hid hzr.len
      have HROW := Lib.hid fun (i : Nat) (hi : i < hn) => (show ∃ Ta Tb : RowH, w.cell? ⟨hb, ho + i * 2, none⟩ = some (rowH Ta) ∧ w.cell? ⟨hb, ho + i * 2 + 1, none⟩ = some (rowH Tb) ∧ IsI w (rowH Ta) (hs[i]?.getD ([], [])).1 ∧ IsI w (rowH Tb) (hs[i]?.getD ([], [])).2 from by
        have hi' : i < hs.length := by rw [HHN.out]; exact hi
        obtain ⟨b, o, Ta, Tb, hA, d0, d1, j0, j1⟩ := HRW.out i hi'
        simp only [Option.some.injEq, Addr.mk.injEq, and_true] at hA
        obtain ⟨rfl, rfl⟩ := hA
        rw [List.getElem?_eq_getElem hi', Option.getD_some]
        exact ⟨Ta, Tb, d0, d1, j0, j1⟩)
      have l0 := cell_lt c0
      clear c1 i0 i1 hzr HRW
      go_enter Tryz.func35, Tryz.ntmps35
      go_wp2_with (first | (go_at_call 37; refine (HW.out _ _ _ _ (by rw [inB_iff]; omega)).mono ?_; rintro e w' ⟨rfl, rfl⟩) | (go_at_call 37; refine (HWF.out _ _ _ _ (by rw [← Bool.not_eq_true, inB_iff]; omega)).mono ?_; rintro e w' ⟨rfl, rfl⟩))
      refine lay_wp (fun W => BoxAt w.heap.size #[.slice (some ⟨hb, ho, none⟩) hn hc, .int .i64 tl, .int .i64 tu, .int .i64 al, .int .i64 au, .slice AR nr cr] 28 W ∧ Ext w W) ⟨BoxAt.new w _ _, (Ext.refl _).alloc _⟩ ?_
      rintro W1 ⟨b1, x1⟩
      have HB1 := Lib.hid b1
      have HX1 := Lib.hid x1
      clear b1 x1 c0 l0
      go_loopw [29] (fun iv W => ∃ i : Nat, i ≤ hn ∧ iv = .int .i64 (i : Int) ∧ Hid (∀ q, q < i → Fine (hs[q]?.getD ([], [])).1 (hs[q]?.getD ([], [])).2 ∧ (hs[q]?.getD ([], [])).1.length = n) ∧ Ext W1 W) (fun iv _ => hn - (intOf iv).toNat)
      case atStart => exact ⟨0, by omega, rfl, Lib.hid fun q hq => by omega, Ext.refl _⟩
      case round =>
        obtain ⟨i, hi, rfl, HDN, hx⟩ := hrel
        have HX := Lib.hid hx
        by_cases hin : i < hn
        · obtain ⟨Ta, Tb, d0, d1, j0, j1⟩ := HROW.out i hin
          have HNV := Lib.hid (show ¬ (Fine (hs[i]?.getD ([], [])).1 (hs[i]?.getD ([], [])).2 ∧ (hs[i]?.getD ([], [])).1.length = n) → ∀ m, PicV P0 m → False from fun hno m hm => by
            have hv := HVH.out m hm
            have hi' : i < hs.length := by rw [HHN.out]; exact hin
            have h0' : 0 < hs.length := by omega
            have e1 := hv.fine _ (List.getElem_mem hi')
            have e0 := hv.fine _ (List.getElem_mem h0')
            have e2 := HLN.out
            rw [List.getElem?_eq_getElem hi', Option.getD_some] at hno
            exact hno ⟨e1.1, by rw [e1.2, ← e0.2]; exact e2⟩)
          obtain ⟨Ai, ni, ci⟩ := Ta
          obtain ⟨Aj, nj, cj⟩ := Tb
          simp only [rowH] at d0 d1 j0 j1
          obtain ⟨_, _, _, he0, -, hzi, -⟩ := j0.open_
          simp only [Value.slice.injEq] at he0
          obtain ⟨rfl, rfl, rfl⟩ := he0
          have hli := hzi.len
          have HC := Lib.hid fun (W : World) (x : Ext w W) => check_any (.slice Ai ni ci) _ W (j0.ext x)
          have HR := Lib.hid fun (W : World) (x : Ext w W) => checkRubber_any (.slice Aj nj cj) _ (n : Int) W (j1.ext x)
          have HFI := Lib.hid (show checkE (hs[i]?.getD ([], [])).1 = 0 → rubberE (hs[i]?.getD ([], [])).2 ni = 0 → Fine (hs[i]?.getD ([], [])).1 (hs[i]?.getD ([], [])).2 from fun h1 h2 => fine_of h1 (by rw [hli]; exact h2))
          have HFB := Lib.hid (show Fine (hs[i]?.getD ([], [])).1 (hs[i]?.getD ([], [])).2 → checkE (hs[i]?.getD ([], [])).1 = 0 ∧ rubberE (hs[i]?.getD ([], [])).2 ni = 0 from fun hf => by have := fine_checkP hf; rw [hli] at this; exact this)
          have HLI := Lib.hid hli
          have HDS := Lib.hid (show Fine (hs[i]?.getD ([], [])).1 (hs[i]?.getD ([], [])).2 → ni = n → ∀ q, q < i + 1 → Fine (hs[q]?.getD ([], [])).1 (hs[q]?.getD ([], [])).2 ∧ (hs[q]?.getD ([], [])).1.length = n from fun hf hnn q hq => by
            by_cases hqi : q = i
            · rw [hqi]
              exact ⟨hf, by rw [HLI.out]; exact hnn⟩
            · exact HDN.out q (by omega))
          obtain ⟨ec, hec⟩ : ∃ z, z = checkE (hs[i]?.getD ([], [])).1 := ⟨_, rfl⟩
          rw [← hec] at HC HFI HFB
          replace d0 := (HX1.out.trans hx).cell_some d0
          replace d1 := (HX1.out.trans hx).cell_some d1
          have ld := cell_lt d0
          have hii : (i : Int) < (hn : Int) := by omega
          clear hx j0 j1 hzi hli hec
          by_cases e1 : ni = n
          · have e1i : (ni : Int) = (n : Int) := by omega
            have HNN := Lib.hid e1
            obtain ⟨er, her⟩ : ∃ z, z = rubberE (hs[i]?.getD ([], [])).2 (n : Int) := ⟨_, rfl⟩
            have HFI2 := Lib.hid (show ec = 0 → er = 0 → Fine (hs[i]?.getD ([], [])).1 (hs[i]?.getD ([], [])).2 from fun h1 h2 => HFI.out h1 (by rw [HNN.out, ← her]; exact h2))
            have HFB2 := Lib.hid (show Fine (hs[i]?.getD ([], [])).1 (hs[i]?.getD ([], [])).2 → ec = 0 ∧ er = 0 from fun hf => by have := HFB.out hf; rw [HNN.out, ← her] at this; exact this)
            rw [← her] at HR
            clear her e1 HFI HFB HLI
            by_cases e2 : ec = 0
            · subst e2
              by_cases e3 : er = 0
              · subst e3
                have HFN := Lib.hid (HDS.out (HFI2.out rfl rfl) HNN.out)
                go_wp2_with (first
                  | (go_at_call 22; refine (HC.out _ ((HX1.out.trans HX.out).alloc _)).mono ?_; rintro e w' ⟨rfl, rfl⟩)
                  | (go_at_call 23; refine (HR.out _ ((HX1.out.trans HX.out).alloc _)).mono ?_; rintro e w' ⟨rfl, rfl⟩))
                go_roundw
                case rel => exact ⟨i + 1, by omega, by go_num, HFN, HX.out.alloc _⟩
                case measure => simp [intOf]; omega
              · have HF := Lib.hid (not_v (HNV.out fun hf => e3 (HFB2.out hf.1).2))
                go_wp2_with (first
                  | (go_at_call 22; refine (HC.out _ ((HX1.out.trans HX.out).alloc _)).mono ?_; rintro e w' ⟨rfl, rfl⟩)
                  | (go_at_call 23; refine (HR.out _ ((HX1.out.trans HX.out).alloc _)).mono ?_; rintro e w' ⟨rfl, rfl⟩))
                go_ret
                exact ⟨false, rfl, HF.out, (HX1.out.trans HX.out).alloc _⟩
            · have HF := Lib.hid (not_v (HNV.out fun hf => e2 (HFB2.out hf.1).1))
              go_wp2_with (first
                | (go_at_call 22; refine (HC.out _ ((HX1.out.trans HX.out).alloc _)).mono ?_; rintro e w' ⟨rfl, rfl⟩))
              go_ret
              exact ⟨false, rfl, HF.out, (HX1.out.trans HX.out).alloc _⟩
          · have HF := Lib.hid (not_v (HNV.out fun hf => e1 (by rw [← HLI.out]; exact hf.2)))
            have e1i : ¬ (ni : Int) = (n : Int) := by omega
            go_wp2_with fail
            go_ret
            exact ⟨false, rfl, HF.out, (HX1.out.trans HX.out).alloc _⟩
        · have hii : ¬ (i : Int) < (hn : Int) := by omega
          have hie : i = hn := by omega
          have HALL := Lib.hid (show ∀ h ∈ hs, Fine h.1 h.2 ∧ h.1.length = n from fun h hm => by
            obtain ⟨q, hq, rfl⟩ := List.getElem_of_mem hm
            have := HDN.out q (by rw [hie, ← HHN.out]; exact hq)
            rwa [List.getElem?_eq_getElem hq, Option.getD_some] at this)
          have hn96 : n ≤ 96 ∧ 3 ≤ n := by
            have := HDN.out 0 (by omega)
            have h1 := this.1.hi
            have h2 := this.1.lo
            omega
          have q1 := (HB1.out.ext hx).cell (i := 1) rfl
          have q2 := (HB1.out.ext hx).cell (i := 2) rfl
          have q3 := (HB1.out.ext hx).cell (i := 3) rfl
          have q4 := (HB1.out.ext hx).cell (i := 4) rfl
          have q5 := (HB1.out.ext hx).cell (i := 5) rfl
          have lq := cell_lt q1
          clear hx hie HDN
          by_cases n0 : tl < 1
          · have HF := Lib.hid (not_v fun m hm => by have hv := HVH.out m hm; have := hv.t; have := hv.a; simp only at *; omega)
            go_wp2_with fail
            go_ret
            exact ⟨false, rfl, HF.out, HX1.out.trans HX.out⟩
          · skip
            by_cases n1 : tu < tl
            · have HF := Lib.hid (not_v fun m hm => by have hv := HVH.out m hm; have := hv.t; have := hv.a; simp only at *; omega)
              go_wp2_with fail
              go_ret
              exact ⟨false, rfl, HF.out, HX1.out.trans HX.out⟩
            · skip
              by_cases n2 : 16 < tu
              · have HF := Lib.hid (not_v fun m hm => by have hv := HVH.out m hm; have := hv.t; have := hv.a; simp only at *; omega)
                go_wp2_with fail
                go_ret
                exact ⟨false, rfl, HF.out, HX1.out.trans HX.out⟩
              · skip
                by_cases n3 : al < -1000
                · have HF := Lib.hid (not_v fun m hm => by have hv := HVH.out m hm; have := hv.t; have := hv.a; simp only at *; omega)
                  go_wp2_with fail
                  go_ret
                  exact ⟨false, rfl, HF.out, HX1.out.trans HX.out⟩
                · skip
                  by_cases n4 : au < al
                  · have HF := Lib.hid (not_v fun m hm => by have hv := HVH.out m hm; have := hv.t; have := hv.a; simp only at *; omega)
                    go_wp2_with fail
                    go_ret
                    exact ⟨false, rfl, HF.out, HX1.out.trans HX.out⟩
                  · skip
                    by_cases n5 : 1000 < au
                    · have HF := Lib.hid (not_v fun m hm => by have hv := HVH.out m hm; have := hv.t; have := hv.a; simp only at *; omega)
                      go_wp2_with fail
                      go_ret
                      exact ⟨false, rfl, HF.out, HX1.out.trans HX.out⟩
                    · skip
                      by_cases n6 : 40 < au - al
                      · have HF := Lib.hid (not_v fun m hm => by have hv := HVH.out m hm; have := hv.t; have := hv.a; simp only at *; omega)
                        have wq : IntKind.i64.wrap (au - al) = au - al := IntWalk.i64_in _ (by omega)
                        go_wp2_with fail
                        go_ret
                        exact ⟨false, rfl, HF.out, HX1.out.trans HX.out⟩
                      · skip
                        have wq : IntKind.i64.wrap (au - al) = au - al := IntWalk.i64_in _ (by omega)
                        go_wp2_with fail
                        go_loopw [93] (fun iv W => ∃ q : Nat, q ≤ nr ∧ iv = .int .i64 (q : Int) ∧ Hid (∀ s, s < q → ReadOk n (rd[s]?.getD (0, 0, 0, 0))) ∧ Ext wr W) (fun iv _ => nr - (intOf iv).toNat)
                        case atStart => exact ⟨0, by omega, rfl, Lib.hid fun s hs => by omega, Ext.refl _⟩
                        case round =>
                          obtain ⟨q, hq, rfl, HDR, hy⟩ := hrel
                          have HY := Lib.hid hy
                          by_cases hqn : q < nr
                          · have hpl : q < rd.length := by rw [HRN.out]; exact hqn
                            obtain ⟨b2, o2, rfl, _, hcs⟩ := HRR.out q hpl
                            have HNV := Lib.hid (show ¬ ReadOk n rd[q] → ∀ m, PicV P0 m → False from fun hno m hm => by
                              have hv := HVH.out m hm
                              have hmn : m = n := by
                                have h0' : 0 < hs.length := by rw [HHN.out]; omega
                                have e0 := hv.fine _ (List.getElem_mem h0')
                                have e1 := HALL.out _ (List.getElem_mem h0')
                                exact e0.2.symm.trans e1.2
                              exact hno (hmn ▸ hv.rd _ (List.getElem_mem hpl)))
                            have HDS := Lib.hid (show ReadOk n rd[q] → ∀ s, s < q + 1 → ReadOk n (rd[s]?.getD (0, 0, 0, 0)) from fun hok s hs => by
                              by_cases hsq : s = q
                              · rw [hsq, List.getElem?_eq_getElem hpl, Option.getD_some]
                                exact hok
                              · exact HDR.out s (by omega))
                            obtain ⟨rr, hrr⟩ : ∃ z, z = rd[q] := ⟨_, rfl⟩
                            rw [← hrr] at HNV HDS hcs
                            obtain ⟨cu, st, lo, hv⟩ := rr
                            have xw := HX1.out.trans (HX.out.trans hy)
                            have c0 := xw.cell_some (hcs 0 _ rfl)
                            have c1 := xw.cell_some (hcs 1 _ rfl)
                            have c2 := xw.cell_some (hcs 2 _ rfl)
                            have c3 := xw.cell_some (hcs 3 _ rfl)
                            simp only [readK, Nat.add_zero] at c0 c1 c2 c3
                            have lc := cell_lt c0
                            have hqq : (q : Int) < (nr : Int) := by omega
                            have w1 : IntKind.i64.wrap ((n : Int) - 1) = (n : Int) - 1 := IntWalk.i64_in _ (by omega)
                            unfold ReadOk at HNV HDS
                            simp only at HNV HDS
                            clear hrr hcs xw hy hpl q1 q2 q3 q4 q5 lq n0 n1 n2 n3 n4 n5 n6
                            by_cases r0 : ¬ (0 ≤ cu ∧ cu ≤ 11)
                            · have HF := Lib.hid (not_v (HNV.out (by omega)))
                              go_wp2_with (first | (go_at_call 37; refine (HW.out _ _ _ _ (by rw [inB_iff]; omega)).mono ?_; rintro e w' ⟨rfl, rfl⟩) | (go_at_call 37; refine (HWF.out _ _ _ _ (by rw [← Bool.not_eq_true, inB_iff]; omega)).mono ?_; rintro e w' ⟨rfl, rfl⟩))
                              go_ret
                              exact ⟨false, rfl, HF.out, HX1.out.trans (HX.out.trans (HY.out.alloc _))⟩
                            · skip
                              by_cases r1 : ¬ (0 ≤ st ∧ st ≤ (n : Int) - 1)
                              · have HF := Lib.hid (not_v (HNV.out (by omega)))
                                go_wp2_with (first | (go_at_call 37; refine (HW.out _ _ _ _ (by rw [inB_iff]; omega)).mono ?_; rintro e w' ⟨rfl, rfl⟩) | (go_at_call 37; refine (HWF.out _ _ _ _ (by rw [← Bool.not_eq_true, inB_iff]; omega)).mono ?_; rintro e w' ⟨rfl, rfl⟩))
                                go_ret
                                exact ⟨false, rfl, HF.out, HX1.out.trans (HX.out.trans (HY.out.alloc _))⟩
                              · skip
                                by_cases r2 : lo < -300000
                                · have HF := Lib.hid (not_v (HNV.out (by omega)))
                                  go_wp2_with (first | (go_at_call 37; refine (HW.out _ _ _ _ (by rw [inB_iff]; omega)).mono ?_; rintro e w' ⟨rfl, rfl⟩) | (go_at_call 37; refine (HWF.out _ _ _ _ (by rw [← Bool.not_eq_true, inB_iff]; omega)).mono ?_; rintro e w' ⟨rfl, rfl⟩))
                                  go_ret
                                  exact ⟨false, rfl, HF.out, HX1.out.trans (HX.out.trans (HY.out.alloc _))⟩
                                · skip
                                  by_cases r3 : hv < lo
                                  · have HF := Lib.hid (not_v (HNV.out (by omega)))
                                    go_wp2_with (first | (go_at_call 37; refine (HW.out _ _ _ _ (by rw [inB_iff]; omega)).mono ?_; rintro e w' ⟨rfl, rfl⟩) | (go_at_call 37; refine (HWF.out _ _ _ _ (by rw [← Bool.not_eq_true, inB_iff]; omega)).mono ?_; rintro e w' ⟨rfl, rfl⟩))
                                    go_ret
                                    exact ⟨false, rfl, HF.out, HX1.out.trans (HX.out.trans (HY.out.alloc _))⟩
                                  · skip
                                    by_cases r4 : 300000 < hv
                                    · have HF := Lib.hid (not_v (HNV.out (by omega)))
                                      go_wp2_with (first | (go_at_call 37; refine (HW.out _ _ _ _ (by rw [inB_iff]; omega)).mono ?_; rintro e w' ⟨rfl, rfl⟩) | (go_at_call 37; refine (HWF.out _ _ _ _ (by rw [← Bool.not_eq_true, inB_iff]; omega)).mono ?_; rintro e w' ⟨rfl, rfl⟩))
                                      go_ret
                                      exact ⟨false, rfl, HF.out, HX1.out.trans (HX.out.trans (HY.out.alloc _))⟩
                                    · skip
                                      have HFN := Lib.hid (HDS.out (by omega))
                                      have s2 := decide_eq_false r2
                                      have s3 := decide_eq_false r3
                                      have s4 := decide_eq_false r4
                                      clear r2 r3 r4
                                      go_wp2_with (first | (go_at_call 37; refine (HW.out _ _ _ _ (by rw [inB_iff]; omega)).mono ?_; rintro e w' ⟨rfl, rfl⟩) | (go_at_call 37; refine (HWF.out _ _ _ _ (by rw [← Bool.not_eq_true, inB_iff]; omega)).mono ?_; rintro e w' ⟨rfl, rfl⟩))
                                      go_roundw
                                      case rel => exact ⟨q + 1, by omega, by go_num, HFN, HY.out.alloc _⟩
                                      case measure => simp [intOf]; omega
                          · have hqq : ¬ (q : Int) < (nr : Int) := by omega
                            have hqe : q = nr := by omega
                            have HV := Lib.hid (show PicV P0 n from HVB.out n ⟨by rw [HHN.out]; exact hh4, HALL.out, ⟨by omega, by omega, by omega⟩, ⟨by omega, by omega, by omega, by omega⟩, by rw [HRN.out]; exact hr6, fun r hr => by
                              obtain ⟨s, hs', rfl⟩ := List.getElem_of_mem hr
                              have := HDR.out s (by rw [hqe, ← HRN.out]; exact hs')
                              rwa [List.getElem?_eq_getElem hs', Option.getD_some] at this⟩)
                            clear hy hqe
                            go_wp2_with fail
                            go_ret
                            exact ⟨true, rfl, ⟨fun _ => ⟨n, HV.out⟩, fun _ => rfl⟩, HX1.out.trans (HX.out.trans HY.out)⟩
    · have HF := Lib.hid (not_v fun m hm => hr6 (by have hv := (HVH.out m hm).rl; rw [HRN.out] at hv; exact hv))
      go_enter Tryz.func35, Tryz.ntmps35
      go_wp2_with (first | (go_at_call 37; refine (HW.out _ _ _ _ (by rw [inB_iff]; omega)).mono ?_; rintro e w' ⟨rfl, rfl⟩) | (go_at_call 37; refine (HWF.out _ _ _ _ (by rw [← Bool.not_eq_true, inB_iff]; omega)).mono ?_; rintro e w' ⟨rfl, rfl⟩))
      go_ret
      exact ⟨false, rfl, HF.out, (Ext.refl _).alloc _⟩
  · have HF := Lib.hid (not_v fun m hm => hh4 (by have hv := (HVH.out m hm).h4; rw [HHN.out] at hv; exact hv))
    go_enter Tryz.func35, Tryz.ntmps35
    go_wp2_with (first | (go_at_call 37; refine (HW.out _ _ _ _ (by rw [inB_iff]; omega)).mono ?_; rintro e w' ⟨rfl, rfl⟩) | (go_at_call 37; refine (HWF.out _ _ _ _ (by rw [← Bool.not_eq_true, inB_iff]; omega)).mono ?_; rintro e w' ⟨rfl, rfl⟩))
    go_ret
    exact ⟨false, rfl, HF.out, (Ext.refl _).alloc _⟩
theorem checkPic_any (hv rv : Value) (p : PicR) (w : World) (h : PicRIs w hv rv p) :
    Calls Tryz.prog 13 #[p.val hv rv] w (ChkRet p w) := by
  have HV := Lib.hid fun (W : World) (x : Ext w W) => valid_any hv rv p W (h.ext x)
  obtain ⟨A, hn, hc, rfl, -⟩ := h.hs.open_
  obtain ⟨AR, nr, cr, rfl, _, _, _, _⟩ := h.rd.open_
  clear h
  go_enter Tryz.func13, Tryz.ntmps13
  go_wp2_with fail
  refine (HV.out _ ((Ext.refl _).alloc _)).mono ?_
  rintro e w1 ⟨b, rfl, hb, x1⟩
  have HX := Lib.hid (((Ext.refl w).alloc _).trans x1)
  have HB := Lib.hid hb
  clear x1 hb
  cases b
  · have HN := Lib.hid (show ¬ ∃ n, PicV p n from fun h => absurd (HB.out.2 h) (by decide))
    clear HB
    go_wp2_with fail
    go_ret
    exact ⟨90, rfl, ⟨fun e => absurd e (by decide), fun h => absurd h HN.out⟩, HX.out⟩
  · have HN := Lib.hid (show ∃ n, PicV p n from HB.out.1 rfl)
    clear HB
    go_wp2_with fail
    go_ret
    exact ⟨0, rfl, ⟨fun _ => HN.out, fun _ => rfl⟩, HX.out⟩
end Go.Proofs.YtkjgcmdabelohaaGreat
