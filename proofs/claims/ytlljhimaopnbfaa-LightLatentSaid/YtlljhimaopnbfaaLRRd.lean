/- The reference's Read. Condition: the shades read as a list. -/
import Derived.Test.YtlljhimaopnbfaaLReadD
import Derived.Test.YtlljhimaopnbfaaLRef
import Derived.Test.YtlljhimaopnbfaaLSlot
import Derived.Test.YtlljhimaopnbfaaLSame
import Derived.Test.YtlljhimaopnbfaaDraw
import Derived.Test.YtlljhimaopnbfaaQS
namespace Go.Proofs.Ytlljhimaopnbfaa
open Go.RowKit

theorem retEE_mkR {α : Type} {K : EK α} {w W : World} {zs zs' : List α} {v : Value} {er er' : Int} (ho : K.Own w.heap.size W v zs) (hz : zs' = zs) (he : er' = er) (x : Ext w W) : RetEE K w zs' er' (.returned (.tuple #[v, .int .i64 er])) W := by
  subst hz he
  exact ⟨v, rfl, ho, x⟩
theorem three (a1 a2 b1 b2 : Int) : (a1 = b1 ∧ a2 = b2) ∨ ((a1 != b1) = true ∧ (a1 == b1) = false ∧ (b1 != a1) = true ∧ (b1 == a1) = false) ∨ (a1 = b1 ∧ (a2 != b2) = true ∧ (a2 == b2) = false ∧ (b2 != a2) = true ∧ (b2 == a2) = false) := by
  by_cases h : a1 = b1 <;> by_cases k : a2 = b2 <;> simp [h, k] <;> omega
theorem readE_zero {xs : List (Int × Int)} (h0 : 0 < xs.length) (h1 : ¬ 576 < xs.length) (h2 : xs.all fracS = true) : readE xs = if twoB xs = true then 0 else 6 := by
  unfold readE
  rw [if_neg h1, if_pos h2]
  simp only [show xs.length ≠ 0 from by omega, ne_eq, not_false_eq_true, true_and]
theorem lowTo_step {xs : List (Int × Int)} {j : Nat} (h : j < xs.length) : lowTo xs (j + 1) = if compareOf xs[j].1 xs[j].2 (lowTo xs j).1 (lowTo xs j).2 < 0 then xs[j] else lowTo xs j := by
  show (if compareOf (xs[j]?.getD (0, 1)).1 (xs[j]?.getD (0, 1)).2 _ _ < 0 then xs[j]?.getD (0, 1) else _) = _
  rw [List.getElem?_eq_getElem h]
  rfl
theorem highTo_step {xs : List (Int × Int)} {j : Nat} (h : j < xs.length) : highTo xs (j + 1) = if 0 < compareOf xs[j].1 xs[j].2 (highTo xs j).1 (highTo xs j).2 then xs[j] else highTo xs j := by
  show (if 0 < compareOf (xs[j]?.getD (0, 1)).1 (xs[j]?.getD (0, 1)).2 _ _ then xs[j]?.getD (0, 1) else _) = _
  rw [List.getElem?_eq_getElem h]
  rfl

/-- The least and the greatest shade, in their boxes. -/
structure LHat (W : World) (bl bh : Nat) (l1 l2 h1 h2 : Int) : Prop where
  c0 : W.cell? ⟨bl, 0, none⟩ = some (.int .i64 l1)
  c1 : W.cell? ⟨bl, 1, none⟩ = some (.int .i64 l2)
  d0 : W.cell? ⟨bh, 0, none⟩ = some (.int .i64 h1)
  d1 : W.cell? ⟨bh, 1, none⟩ = some (.int .i64 h2)
  f0 : W.frozen? ⟨bl, 0, none⟩ = false
  f1 : W.frozen? ⟨bl, 1, none⟩ = false
  g0 : W.frozen? ⟨bh, 0, none⟩ = false
  g1 : W.frozen? ⟨bh, 1, none⟩ = false
theorem LHat.ext {W W' : World} {bl bh : Nat} {l1 l2 h1 h2 : Int} (h : LHat W bl bh l1 l2 h1 h2) (x : Ext W W') : LHat W' bl bh l1 l2 h1 h2 :=
  ⟨x.cell_some h.c0, x.cell_some h.c1, x.cell_some h.d0, x.cell_some h.d1, x.frozen h.c0 h.f0, x.frozen h.c1 h.f1, x.frozen h.d0 h.g0, x.frozen h.d1 h.g1⟩
theorem LHat.low {W : World} {bl bh : Nat} {l1 l2 h1 h2 : Int} (h : LHat W bl bh l1 l2 h1 h2) (hne : bl ≠ bh) (x1 x2 : Int) : LHat ((W.setCell ⟨bl, 0, none⟩ (.int .i64 x1)).setCell ⟨bl, 1, none⟩ (.int .i64 x2)) bl bh x1 x2 h1 h2 := by
  obtain ⟨a, b⟩ := set2 h.c0 h.c1 (.int .i64 x1) (.int .i64 x2)
  have hb := ((But.refl [bl] W).setCell (p := ⟨bl, 0, none⟩) (by simp) (.int .i64 x1)).setCell (p := ⟨bl, 1, none⟩) (by simp) (.int .i64 x2)
  have hm : bh ∉ [bl] := by simpa using fun e => hne e.symm
  refine ⟨a, b, hb.cell h.d0 hm, hb.cell h.d1 hm, ?_, ?_, hb.frozen h.d0 h.g0 hm, hb.frozen h.d1 h.g1 hm⟩
  · rw [World.frozen?_setCell, World.frozen?_setCell]; exact h.f0
  · rw [World.frozen?_setCell, World.frozen?_setCell]; exact h.f1
theorem LHat.high {W : World} {bl bh : Nat} {l1 l2 h1 h2 : Int} (h : LHat W bl bh l1 l2 h1 h2) (hne : bl ≠ bh) (x1 x2 : Int) : LHat ((W.setCell ⟨bh, 0, none⟩ (.int .i64 x1)).setCell ⟨bh, 1, none⟩ (.int .i64 x2)) bl bh l1 l2 x1 x2 := by
  obtain ⟨a, b⟩ := set2 h.d0 h.d1 (.int .i64 x1) (.int .i64 x2)
  have hb := ((But.refl [bh] W).setCell (p := ⟨bh, 0, none⟩) (by simp) (.int .i64 x1)).setCell (p := ⟨bh, 1, none⟩) (by simp) (.int .i64 x2)
  have hm : bl ∉ [bh] := by simpa using hne
  refine ⟨hb.cell h.c0 hm, hb.cell h.c1 hm, a, b, hb.frozen h.c0 h.f0 hm, hb.frozen h.c1 h.f1 hm, ?_, ?_⟩
  · rw [World.frozen?_setCell, World.frozen?_setCell]; exact h.g0
  · rw [World.frozen?_setCell, World.frozen?_setCell]; exact h.g1
theorem put_other {W : World} {b bl o : Nat} {v u0 u1 : Value} (h : W.cell? ⟨b, o, none⟩ = some v) (hne : b ≠ bl) : ((W.setCell ⟨bl, 0, none⟩ u0).setCell ⟨bl, 1, none⟩ u1).cell? ⟨b, o, none⟩ = some v :=
  (((But.refl [bl] W).setCell (p := ⟨bl, 0, none⟩) (by simp) u0).setCell (p := ⟨bl, 1, none⟩) (by simp) u1).cell h (by simpa using hne)

set_option maxRecDepth 100000 in
set_option maxHeartbeats 8000000 in
theorem refRead_any (v : Value) (xs : List (Int × Int)) (w : World) (hI : shadeK.Is w v xs) :
    Calls Try.prog 54 #[v] w (RetEE boolK w (readL xs) (readE xs)) := by
  obtain ⟨A, n, c, rfl, hn, _, hr, hm⟩ := hI.open_
  have HN := Lib.hid hn
  have HR := Lib.hid hr
  have HLD := Lib.hid (show readL xs = if readE xs = 0 then xs.map (· == highS xs) else [] from rfl)
  clear hI hr
  by_cases hb : 576 < n
  · have g1 : decide ((576 : Int) < (n : Int)) = true := decide_eq_true (by omega)
    have HE := Lib.hid (show readE xs = 4 from if_pos (by rw [hn]; exact hb))
    have HL := Lib.hid (show readL xs = [] from if_neg (by rw [HE.out]; decide))
    clear hn hb
    go_enter Try.func54, Try.ntmps54
    go_wp2_with fail
    go_ret2
    exact retEE_mkR (EK.Own.nil _ _) HL.out HE.out (by (repeat' (first | with_reducible exact Ext.refl _ | with_reducible apply Ext.alloc | with_reducible apply Ext.drew | with_reducible apply Ext.drewN | with_reducible refine Ext.setCell ?_ ?_ _ | with_reducible apply Ext.step | with_reducible assumption | with_reducible exact Nat.le_refl _ | (simp; done) | (simp; omega))))
  have g1 : decide ((576 : Int) < (n : Int)) = false := decide_eq_false (by omega)
  have HNB := Lib.hid (show ¬ 576 < xs.length by rw [hn]; exact hb)
  have hn5 : n ≤ 576 := by omega
  clear hn hb
  go_enter Try.func54, Try.ntmps54
  go_wp2_with fail
  go_loopw [4] (fun iv wr => ∃ j : Nat, j ≤ n ∧ iv = .int .i64 (j : Int) ∧ Hid ((xs.take j).all fracS = true) ∧ Ext w wr) (fun iv _ => n - (intOf iv).toNat)
  case atStart => exact ⟨0, by omega, rfl, Lib.hid rfl, Ext.refl _⟩
  case round =>
    obtain ⟨j, hj, rfl, HA, hx⟩ := hrel
    have HX := Lib.hid hx
    by_cases hlt : j < n
    · have hjl : j < xs.length := by rw [HN.out]; exact hlt
      have hji : (j : Int) < (n : Int) := by omega
      obtain ⟨b, o, rfl, hb, hc⟩ := HR.out j hjl
      have h0 := hx.cell_some (hc 0 _ rfl)
      have h1 := hx.cell_some (hc 1 _ rfl)
      simp only [shadeK, Nat.add_zero] at h0 h1
      have HTK := Lib.hid (show (xs.take (j + 1)).all fracS = fracB xs[j].1 xs[j].2 by
        rw [List.take_succ_eq_append_getElem hjl, List.all_append, HA.out, Bool.true_and]
        simp [fracS])
      have HNO := Lib.hid fun (h : fracB xs[j].1 xs[j].2 = false) => (show readE xs = 2 from by
        have : xs.all fracS = false := List.all_eq_false.2 ⟨xs[j], List.getElem_mem hjl, by rw [show fracS xs[j] = fracB xs[j].1 xs[j].2 from rfl, h]; exact Bool.false_ne_true⟩
        unfold readE
        rw [if_neg HNB.out, this]
        rfl)
      generalize xs[j].1 = x1 at *
      generalize xs[j].2 = x2 at *
      have l0 := cell_lt h0
      have HSH := Lib.hid fun W : World => refShaped_any x1 x2 W
      have hfd : fracB x1 x2 = (shapedB x1 x2 && decide (Int.gcd x1 x2 = 1)) := rfl
      clear hc hx
      cases hs : shapedB x1 x2
      · have HF := Lib.hid (HNO.out (by rw [hfd, hs]; rfl))
        have HF2 := Lib.hid (show readL xs = [] by rw [HLD.out, HF.out]; rfl)
        rw [hs] at HSH
        clear hs hfd HNO HTK
        go_wp2_with fail
        refine wp_region_bext (by kernel_rfl) (by kernel_rfl) ?_
        repeat (any_goals (go_big_quiet_step ((go_at_call 71; exact bext_call (HSH.out _)))))
        all_goals refine wpQuiet_nil ?_
        all_goals rintro _ ⟨δ, rfl⟩
        go_wp2_with fail
        go_ret2
        exact retEE_mkR (EK.Own.nil _ _) HF2.out HF.out (HX.out.trans ⟨δ, rfl⟩)
      · obtain ⟨⟨s1, s2⟩, s3, s4⟩ := shapedB_iff.1 hs
        have HCM := Lib.hid fun W : World => common_any x1 x2 W s3 (by omega) (by omega) (by omega)
        rw [hs] at HSH hfd
        clear hs s1 s2 s3 s4
        by_cases hg : Int.gcd x1 x2 = 1
        · have HF := Lib.hid (show (xs.take (j + 1)).all fracS = true by rw [HTK.out, hfd, decide_eq_true hg]; rfl)
          rw [hg] at HCM
          clear hg hfd HNO HTK
          go_wp2_with fail
          refine wp_region_bext (by kernel_rfl) (by kernel_rfl) ?_
          repeat (any_goals (go_big_quiet_step ((first | (go_at_call 71; exact bext_call (HSH.out _)) | (go_at_call 99; exact bext_call (HCM.out _))))))
          all_goals refine wpQuiet_nil ?_
          all_goals rintro _ ⟨δ, rfl⟩
          go_wp2_with fail
          go_roundw
          case rel => exact ⟨j + 1, by omega, by go_num, HF, HX.out.trans ⟨δ, rfl⟩⟩
          case measure => simp [intOf]; omega
        · have HF := Lib.hid (HNO.out (by rw [hfd, decide_eq_false hg]; rfl))
          have HF2 := Lib.hid (show readL xs = [] by rw [HLD.out, HF.out]; rfl)
          have hgb : ((Int.gcd x1 x2 : Int) != 1) = true := by simp; omega
          clear hg hfd HNO HTK
          go_wp2_with fail
          refine wp_region_bext (by kernel_rfl) (by kernel_rfl) ?_
          repeat (any_goals (go_big_quiet_step ((first | (go_at_call 71; exact bext_call (HSH.out _)) | (go_at_call 99; exact bext_call (HCM.out _))))))
          all_goals refine wpQuiet_nil ?_
          all_goals rintro _ ⟨δ, rfl⟩
          go_wp2_with fail
          go_ret2
          exact retEE_mkR (EK.Own.nil _ _) HF2.out HF.out (HX.out.trans ⟨δ, rfl⟩)
    · obtain rfl : j = n := by omega
      have HAL := Lib.hid (show xs.all fracS = true by
        have := HA.out
        rwa [List.take_of_length_le (by rw [HN.out]; exact Nat.le_refl _)] at this)
      clear hx HA
      by_cases h0 : j = 0
      · subst h0
        have HF := Lib.hid (show readE xs = 6 by
          unfold readE
          rw [if_neg HNB.out, HAL.out, HN.out]
          rfl)
        have HF2 := Lib.hid (show readL xs = [] by rw [HLD.out, HF.out]; rfl)
        go_wp2_with fail
        go_ret2
        exact retEE_mkR (EK.Own.nil _ _) HF2.out HF.out HX.out
      have h0b : ((j : Int) == 0) = false := by simp; omega
      have hz : 0 < xs.length := by rw [HN.out]; omega
      have HE := Lib.hid (readE_zero hz HNB.out HAL.out)
      obtain ⟨b, o, rfl, hb, hc⟩ := HR.out 0 hz
      have h0c := HX.out.cell_some (hc 0 _ rfl)
      have h1c := HX.out.cell_some (hc 1 _ rfl)
      simp only [shadeK, Nat.zero_mul, Nat.add_zero] at h0c h1c
      have hl0 : lowTo xs 0 = xs[0] := by show xs[0]?.getD (0, 1) = _; rw [List.getElem?_eq_getElem hz]; rfl
      have hh0 : highTo xs 0 = xs[0] := by show xs[0]?.getD (0, 1) = _; rw [List.getElem?_eq_getElem hz]; rfl
      rw [← hl0] at h0c h1c
      rw [← hl0] at hh0
      have HH0 := Lib.hid hh0
      have hj1 : 0 < j := by omega
      have ll := cell_lt h0c
      obtain ⟨p1, hp1⟩ : ∃ z, z = (lowTo xs 0).1 := ⟨_, rfl⟩
      obtain ⟨p2, hp2⟩ : ∃ z, z = (lowTo xs 0).2 := ⟨_, rfl⟩
      rw [← hp1] at h0c
      rw [← hp2] at h1c
      have HP := Lib.hid (And.intro hp1 hp2)
      clear hc hb hz hl0 hh0 hp1 hp2
      go_wp2_with fail
      refine wp_region_mk ([⟨6, 8, 5, 27, #[.int .i64 0, .int .i64 0], 44⟩, ⟨7, 9, 6, 27, #[.int .i64 0, .int .i64 0], 47⟩]) (by kernel_rfl) (by kernel_rfl) ?_ ?_
      · intro m hm o ho ρ W
        simp only [List.mem_cons, List.not_mem_nil, or_false] at hm
        rcases hm with rfl | rfl <;> (cases ho; go_simp)
      repeat (any_goals (first | (refine wpX_skip (by rfl) ?_) | (refine wpX_pass (by rfl) (by rfl) ?_) | (refine wpX_stepK (by rfl) (by rfl) (fun K hK => ?_); go_simp; first | (refine hK _ ?_; clear hK K) | (apply Exists.intro; refine ⟨fun δ => ?_, hK _ ?_⟩; (focus fail); clear hK K))))
      all_goals refine wpX_nil ⟨?_, ?_⟩
      any_goals (intro m hm; simp only [List.mem_cons, List.not_mem_nil, or_false] at hm; rcases hm with rfl | rfl <;> exact ⟨by kernel_rfl, rfl, by simp [Value.cells, Value.oneCell']⟩)
      all_goals refine mk_two (by decide) ?_
      rintro bl bh δ hbl hbh hne m7 m8
      have c0 : δ.wd.cell? ⟨bl, 0, none⟩ = some (.int .i64 p1) := (m7.cell 0).trans (by simp [Value.cells])
      have c1 : δ.wd.cell? ⟨bl, 1, none⟩ = some (.int .i64 p2) := (m7.cell 1).trans (by simp [Value.cells])
      have d0 : δ.wd.cell? ⟨bh, 0, none⟩ = some (.int .i64 p1) := (m8.cell 0).trans (by simp [Value.cells])
      have d1 : δ.wd.cell? ⟨bh, 1, none⟩ = some (.int .i64 p2) := (m8.cell 1).trans (by simp [Value.cells])
      have HLH := Lib.hid (show LHat δ.wd bl bh p1 p2 p1 p2 from ⟨c0, c1, d0, d1, m7.frozen 0, m7.frozen 1, m8.frozen 0, m8.frozen 1⟩)
      have HX2 := Lib.hid (HX.out.trans (show Ext wr δ.wd from ⟨δ, rfl⟩))
      have hbl2 : w.heap.size ≤ bl := Nat.le_trans HX.out.bel.size hbl
      have hbh2 : w.heap.size ≤ bh := Nat.le_trans HX.out.bel.size hbh
      have HBB := Lib.hid (And.intro hbl2 hbh2)
      have HNE := Lib.hid hne
      generalize δ.wd = w2 at *
      clear c0 c1 d0 d1 m7 m8 hbl hbh hne hbl2 hbh2 h0c h1c ll
      go_wp2_with fail
      go_loopw [7] (fun iv wr => ∃ i : Nat, i ≤ j ∧ iv = .int .i64 (i : Int) ∧ LHat wr bl bh (lowTo xs i).1 (lowTo xs i).2 (highTo xs i).1 (highTo xs i).2 ∧ But [bl, bh] w2 wr) (fun iv _ => j - (intOf iv).toNat)
      case atStart => exact ⟨0, by omega, rfl, by rw [HH0.out, ← HP.out.1, ← HP.out.2]; exact HLH.out, But.refl _ _⟩
      case round =>
        obtain ⟨i, hi, rfl, hl, hbt⟩ := hrel
        have HB := Lib.hid hbt
        have HXW := Lib.hid (show Ext w wr from hbt.below HX2.out (by simp; exact HBB.out))
        have HL := Lib.hid hl
        clear hl hbt
        by_cases hlt : i < j
        · have hil : i < xs.length := by rw [HN.out]; exact hlt
          have hij : (i : Int) < (j : Int) := by omega
          obtain ⟨b', o', hAe, hbw, hc'⟩ := HR.out i hil
          simp only [Option.some.injEq, Addr.mk.injEq, and_true] at hAe
          obtain ⟨rfl, rfl⟩ := hAe
          have h0 := HXW.out.cell_some (hc' 0 _ rfl)
          have h1 := HXW.out.cell_some (hc' 1 _ rfl)
          simp only [shadeK, Nat.add_zero] at h0 h1
          have HSL := Lib.hid (lowTo_step hil)
          have HSH := Lib.hid (highTo_step hil)
          have HC1 := Lib.hid fun W : World => refCompare_any xs[i].1 xs[i].2 (lowTo xs i).1 (lowTo xs i).2 W
          have HC2 := Lib.hid fun W : World => refCompare_any xs[i].1 xs[i].2 (highTo xs i).1 (highTo xs i).2 W
          obtain ⟨l1, hl1⟩ : ∃ z, z = (lowTo xs i).1 := ⟨_, rfl⟩
          obtain ⟨l2, hl2⟩ : ∃ z, z = (lowTo xs i).2 := ⟨_, rfl⟩
          obtain ⟨q1, hq1⟩ : ∃ z, z = (highTo xs i).1 := ⟨_, rfl⟩
          obtain ⟨q2, hq2⟩ : ∃ z, z = (highTo xs i).2 := ⟨_, rfl⟩
          obtain ⟨x1, hx1⟩ : ∃ z, z = xs[i].1 := ⟨_, rfl⟩
          obtain ⟨x2, hx2⟩ : ∃ z, z = xs[i].2 := ⟨_, rfl⟩
          have HXI := Lib.hid (show xs[i] = (x1, x2) by rw [hx1, hx2])
          have HQQ := Lib.hid (And.intro hq1 hq2)
          have HLL := Lib.hid (And.intro hl1 hl2)
          rw [← hl1, ← hl2, ← hx1, ← hx2] at HC1 HSL
          rw [← hq1, ← hq2, ← hx1, ← hx2] at HC2 HSH
          rw [← hx1] at h0
          rw [← hx2] at h1
          rw [← hl1, ← hl2, ← hq1, ← hq2] at HL
          generalize compareOf x1 x2 l1 l2 = cl at *
          generalize compareOf x1 x2 q1 q2 = cq at *
          clear hl1 hl2 hq1 hq2 hx1 hx2 hc'
          have c0 := HL.out.c0
          have c1 := HL.out.c1
          have f0 := HL.out.f0
          have f1 := HL.out.f1
          have lc := cell_lt c0
          have le := cell_lt h0
          by_cases hc1 : cl < 0
          · have hd1 : decide (cl < 0) = true := decide_eq_true hc1
            have HLS := Lib.hid (show lowTo xs (i + 1) = (x1, x2) by rw [HSL.out, if_pos hc1]; exact HXI.out)
            clear hc1
            go_wp2_with fail
            refine wp_region_bext (by kernel_rfl) (by kernel_rfl) ?_
            repeat (any_goals (go_big_quiet_step ((go_at_call 24; exact bext_call (HC1.out _)))))
            all_goals refine wpQuiet_nil ?_
            all_goals rintro _ ⟨δ, rfl⟩
            have x3 : Ext wr δ.wd := ⟨δ, rfl⟩
            have HLP := Lib.hid (HL.out.ext x3)
            have HBP := Lib.hid (HB.out.ext x3)
            replace h0 := x3.cell_some h0
            replace h1 := x3.cell_some h1
            replace c0 := x3.cell_some c0
            replace c1 := x3.cell_some c1
            replace le := cell_lt h0
            replace lc := cell_lt c0
            replace f0 := HLP.out.f0
            replace f1 := HLP.out.f1
            have hne2 : b ≠ bl := fun e => by have h2 := HBB.out.1; have h3 := hbw; omega
            generalize δ.wd = W3 at *
            clear x3
            go_wp2_with fail
            refine lay_wp (fun W => LHat W bl bh x1 x2 q1 q2 ∧ But [bl, bh] w2 W ∧ W.cell? ⟨b, o + i * 2, none⟩ = some (.int .i64 x1) ∧ W.cell? ⟨b, o + i * 2 + 1, none⟩ = some (.int .i64 x2)) ⟨HLP.out.low HNE.out x1 x2, (HBP.out.setCell (by simp) _).setCell (by simp) _, put_other h0 hne2, put_other h1 hne2⟩ ?_
            clear h0 h1 c0 c1 f0 f1 lc le hne2
            rintro W4 ⟨hlo, hbo, h0, h1⟩
            have HLO := Lib.hid hlo
            have HBO := Lib.hid hbo
            clear hlo hbo
            have c0 := HLO.out.c0
            have c1 := HLO.out.c1
            have d0 := HLO.out.d0
            have d1 := HLO.out.d1
            have f0 := HLO.out.f0
            have f1 := HLO.out.f1
            have e0 := HLO.out.g0
            have e1 := HLO.out.g1
            have lc := cell_lt c0
            have ld := cell_lt d0
            have le := cell_lt h0
            by_cases hc2 : 0 < cq
            · have hd2 : decide (0 < cq) = true := decide_eq_true hc2
              have HHS := Lib.hid (show highTo xs (i + 1) = (x1, x2) by rw [HSH.out, if_pos hc2]; exact HXI.out)
              clear hc2
              go_wp2_with fail
              refine wp_region_bext (by kernel_rfl) (by kernel_rfl) ?_
              repeat (any_goals (go_big_quiet_step ((go_at_call 24; exact bext_call (HC2.out _)))))
              all_goals refine wpQuiet_nil ?_
              all_goals rintro _ ⟨δ, rfl⟩
              have x5 : Ext W4 δ.wd := ⟨δ, rfl⟩
              have HLP := Lib.hid (HLO.out.ext x5)
              have HBP := Lib.hid (HBO.out.ext x5)
              replace h0 := x5.cell_some h0
              replace h1 := x5.cell_some h1
              replace c0 := x5.cell_some c0
              replace c1 := x5.cell_some c1
              replace d0 := x5.cell_some d0
              replace d1 := x5.cell_some d1
              replace le := cell_lt h0
              replace e0 := HLP.out.g0
              replace e1 := HLP.out.g1
              replace ld := cell_lt d0
              generalize δ.wd = W5 at *
              clear x5 c0 c1 f0 f1 lc
              go_wp2_with fail
              go_roundw
              case rel =>
                have := HLP.out.high HNE.out x1 x2
                exact ⟨i + 1, by omega, by go_num, by rw [HLS.out, HHS.out]; exact this, (HBP.out.setCell (by simp) _).setCell (by simp) _⟩
              case measure => simp [intOf]; omega
            · have hd2 : decide (0 < cq) = false := decide_eq_false hc2
              have HHS := Lib.hid (show highTo xs (i + 1) = highTo xs i by rw [HSH.out, if_neg hc2])
              clear hc2
              go_wp2_with fail
              refine wp_region_bext (by kernel_rfl) (by kernel_rfl) ?_
              repeat (any_goals (go_big_quiet_step ((go_at_call 24; exact bext_call (HC2.out _)))))
              all_goals refine wpQuiet_nil ?_
              all_goals rintro _ ⟨δ, rfl⟩
              have x5 : Ext W4 δ.wd := ⟨δ, rfl⟩
              have HLP := Lib.hid (HLO.out.ext x5)
              have HBP := Lib.hid (HBO.out.ext x5)
              generalize δ.wd = W5 at *
              clear x5 c0 c1 f0 f1 lc d0 d1 e0 e1 ld h0 h1 le
              go_wp2_with fail
              go_roundw
              case rel => exact ⟨i + 1, by omega, by go_num, by rw [HLS.out, HHS.out, ← HQQ.out.1, ← HQQ.out.2]; exact HLP.out, HBP.out⟩
              case measure => simp [intOf]; omega
          · have hd1 : decide (cl < 0) = false := decide_eq_false hc1
            have HLS := Lib.hid (show lowTo xs (i + 1) = (l1, l2) by rw [HSL.out, if_neg hc1, HLL.out.1, HLL.out.2])
            clear hc1
            go_wp2_with fail
            refine wp_region_bext (by kernel_rfl) (by kernel_rfl) ?_
            repeat (any_goals (go_big_quiet_step ((go_at_call 24; exact bext_call (HC1.out _)))))
            all_goals refine wpQuiet_nil ?_
            all_goals rintro _ ⟨δ, rfl⟩
            have x3 : Ext wr δ.wd := ⟨δ, rfl⟩
            have HLO := Lib.hid (HL.out.ext x3)
            have HBO := Lib.hid (HB.out.ext x3)
            replace h0 := x3.cell_some h0
            replace h1 := x3.cell_some h1
            replace le := cell_lt h0
            generalize δ.wd = W4 at *
            clear x3 c0 c1 f0 f1 lc le
            go_wp2_with fail
            have c0 := HLO.out.c0
            have c1 := HLO.out.c1
            have d0 := HLO.out.d0
            have d1 := HLO.out.d1
            have f0 := HLO.out.f0
            have f1 := HLO.out.f1
            have e0 := HLO.out.g0
            have e1 := HLO.out.g1
            have lc := cell_lt c0
            have ld := cell_lt d0
            have le := cell_lt h0
            by_cases hc2 : 0 < cq
            · have hd2 : decide (0 < cq) = true := decide_eq_true hc2
              have HHS := Lib.hid (show highTo xs (i + 1) = (x1, x2) by rw [HSH.out, if_pos hc2]; exact HXI.out)
              clear hc2
              go_wp2_with fail
              refine wp_region_bext (by kernel_rfl) (by kernel_rfl) ?_
              repeat (any_goals (go_big_quiet_step ((go_at_call 24; exact bext_call (HC2.out _)))))
              all_goals refine wpQuiet_nil ?_
              all_goals rintro _ ⟨δ, rfl⟩
              have x5 : Ext W4 δ.wd := ⟨δ, rfl⟩
              have HLP := Lib.hid (HLO.out.ext x5)
              have HBP := Lib.hid (HBO.out.ext x5)
              replace h0 := x5.cell_some h0
              replace h1 := x5.cell_some h1
              replace c0 := x5.cell_some c0
              replace c1 := x5.cell_some c1
              replace d0 := x5.cell_some d0
              replace d1 := x5.cell_some d1
              replace le := cell_lt h0
              replace e0 := HLP.out.g0
              replace e1 := HLP.out.g1
              replace ld := cell_lt d0
              generalize δ.wd = W5 at *
              clear x5 c0 c1 f0 f1 lc
              go_wp2_with fail
              go_roundw
              case rel =>
                have := HLP.out.high HNE.out x1 x2
                exact ⟨i + 1, by omega, by go_num, by rw [HLS.out, HHS.out]; exact this, (HBP.out.setCell (by simp) _).setCell (by simp) _⟩
              case measure => simp [intOf]; omega
            · have hd2 : decide (0 < cq) = false := decide_eq_false hc2
              have HHS := Lib.hid (show highTo xs (i + 1) = highTo xs i by rw [HSH.out, if_neg hc2])
              clear hc2
              go_wp2_with fail
              refine wp_region_bext (by kernel_rfl) (by kernel_rfl) ?_
              repeat (any_goals (go_big_quiet_step ((go_at_call 24; exact bext_call (HC2.out _)))))
              all_goals refine wpQuiet_nil ?_
              all_goals rintro _ ⟨δ, rfl⟩
              have x5 : Ext W4 δ.wd := ⟨δ, rfl⟩
              have HLP := Lib.hid (HLO.out.ext x5)
              have HBP := Lib.hid (HBO.out.ext x5)
              generalize δ.wd = W5 at *
              clear x5 c0 c1 f0 f1 lc d0 d1 e0 e1 ld h0 h1 le
              go_wp2_with fail
              go_roundw
              case rel => exact ⟨i + 1, by omega, by go_num, by rw [HLS.out, HHS.out, ← HQQ.out.1, ← HQQ.out.2]; exact HLP.out, HBP.out⟩
              case measure => simp [intOf]; omega
        · obtain rfl : i = j := by omega
          obtain ⟨l1, hl1⟩ : ∃ z, z = (lowTo xs i).1 := ⟨_, rfl⟩
          obtain ⟨l2, hl2⟩ : ∃ z, z = (lowTo xs i).2 := ⟨_, rfl⟩
          obtain ⟨q1, hq1⟩ : ∃ z, z = (highTo xs i).1 := ⟨_, rfl⟩
          obtain ⟨q2, hq2⟩ : ∃ z, z = (highTo xs i).2 := ⟨_, rfl⟩
          have HLW := Lib.hid (show lowS xs = (l1, l2) by rw [lowS, HN.out, hl1, hl2])
          have HHI := Lib.hid (show highS xs = (q1, q2) by rw [highS, HN.out, hq1, hq2])
          rw [← hl1, ← hl2, ← hq1, ← hq2] at HL
          clear hl1 hl2 hq1 hq2
          obtain ⟨w3, rfl⟩ : ∃ w3, w3 = wr := ⟨_, rfl⟩
          go_wp2_with fail
          go_loopw [9, 8] (fun iv ov wr => ∃ q : Nat, q ≤ i ∧ iv = .int .i64 (q : Int) ∧ Hid ((xs.take q).all (oneOf xs) = true ∧ (q ≠ 0 → ¬ (l1 = q1 ∧ l2 = q2))) ∧ boolK.Own w3.heap.size wr ov ((xs.take q).map (· == highS xs)) ∧ Ext w3 wr) (fun iv _ _ => i - (intOf iv).toNat)
          case atStart => exact ⟨0, by omega, rfl, Lib.hid ⟨rfl, fun h => absurd rfl h⟩, EK.Own.nil _ _, Ext.refl _⟩
          case round =>
            obtain ⟨q, hq, rfl, HA, ho, hx⟩ := hrel
            obtain ⟨Ao, ko, co, rfl⟩ := ho.shape
            have HX3 := Lib.hid hx
            have HO := Lib.hid ho
            have HBZ := Lib.hid hx.bel.size
            by_cases hlq : q < i
            · have hql : q < xs.length := by rw [HN.out]; exact hlq
              have hqi : (q : Int) < (i : Int) := by omega
              obtain ⟨b', o', hAe, hbw, hc'⟩ := HR.out q hql
              simp only [Option.some.injEq, Addr.mk.injEq, and_true] at hAe
              obtain ⟨rfl, rfl⟩ := hAe
              have h0 := hx.cell_some (HXW.out.cell_some (hc' 0 _ rfl))
              have h1 := hx.cell_some (HXW.out.cell_some (hc' 1 _ rfl))
              simp only [shadeK, Nat.add_zero] at h0 h1
              obtain ⟨x1, hx1⟩ : ∃ z, z = xs[q].1 := ⟨_, rfl⟩
              obtain ⟨x2, hx2⟩ : ∃ z, z = xs[q].2 := ⟨_, rfl⟩
              have HXI := Lib.hid (show xs[q] = (x1, x2) by rw [hx1, hx2])
              rw [← hx1] at h0
              rw [← hx2] at h1
              have c0 := (HL.out.ext hx).c0
              have c1 := (HL.out.ext hx).c1
              have d0 := (HL.out.ext hx).d0
              have d1 := (HL.out.ext hx).d1
              have lc := cell_lt c0
              have ld := cell_lt d0
              have le := cell_lt h0
              have HTK := Lib.hid (show (xs.take (q + 1)).all (oneOf xs) = oneOf xs xs[q] by rw [List.take_succ_eq_append_getElem hql, List.all_append, HA.out.1, Bool.true_and]; simp)
              have HST := Lib.hid (show (xs.take (q + 1)).map (· == highS xs) = (xs.take q).map (· == highS xs) ++ [xs[q] == highS xs] by rw [List.take_succ_eq_append_getElem hql, List.map_append]; rfl)
              have HLN := Lib.hid (show ((xs.take q).map (· == highS xs)).length ≤ 1000000000 by rw [List.length_map, List.length_take]; omega)
              clear hx ho hx1 hx2 hc'
              have HLBF := Lib.hid (And.intro (show b < w3.heap.size from Nat.lt_of_lt_of_le hbw HXW.out.bel.size) (cell_lt HL.out.d0))
              by_cases hlh : l1 = q1 ∧ l2 = q2
              · obtain ⟨rfl, rfl⟩ := hlh
                have HF := Lib.hid (show readE xs = 6 by rw [HE.out, twoB, HLW.out, HHI.out]; simp)
                have HF2 := Lib.hid (show readL xs = [] by rw [HLD.out, HF.out]; rfl)
                rcases three x1 x2 l1 l2 with ⟨rfl, rfl⟩ | ⟨e1, e2, e3, e4⟩ | ⟨rfl, e1, e2, e3, e4⟩
                all_goals
                  go_wp2_with fail
                  refine wp_region_bext (by kernel_rfl) (by kernel_rfl) ?_
                  repeat (any_goals (go_big_quiet_step (fail)))
                  all_goals refine wpQuiet_nil ?_
                  all_goals rintro _ ⟨δ, rfl⟩
                  go_wp2_with fail
                  go_ret2
                  exact retEE_mkR (EK.Own.nil _ _) HF2.out HF.out (HXW.out.trans (HX3.out.trans ⟨δ, rfl⟩))
              have HLQ := Lib.hid hlh
              have HLE := Lib.hid (three l1 l2 q1 q2)
              by_cases hxl : x1 = l1 ∧ x2 = l2
              · obtain ⟨rfl, rfl⟩ := hxl
                have HVA := Lib.hid (show (xs[q] == highS xs) = false by rw [HXI.out, HHI.out]; simpa using fun h => not_and.1 HLQ.out h)
                have HAN := Lib.hid (show (xs.take (q + 1)).all (oneOf xs) = true ∧ (q + 1 ≠ 0 → ¬ (x1 = q1 ∧ x2 = q2)) from ⟨by rw [HTK.out, oneOf, HXI.out, HLW.out]; simp, fun _ => HLQ.out⟩)
                rcases HLE.out with h | ⟨e1, e2, e3, e4⟩ | ⟨rfl, e1, e2, e3, e4⟩
                · exact absurd h hlh
                all_goals
                  clear hlh
                  go_wp2_with fail
                  refine wp_region_bext (by kernel_rfl) (by kernel_rfl) ?_
                  repeat (any_goals (go_big_quiet_step (fail)))
                  all_goals refine wpQuiet_nil ?_
                  all_goals rintro _ ⟨δ, rfl⟩
                  have x4 : Ext wr δ.wd := ⟨δ, rfl⟩
                  have HX4 := Lib.hid (HX3.out.trans x4)
                  have HO4 := Lib.hid (HO.out.ext x4)
                  replace h0 := x4.cell_some h0
                  replace h1 := x4.cell_some h1
                  replace d0 := x4.cell_some d0
                  replace d1 := x4.cell_some d1
                  replace le := cell_lt h0
                  replace ld := cell_lt d0
                  generalize δ.wd = W4 at *
                  clear x4 c0 c1 lc
                  have HNT := Lib.hid fun (b : Nat) (hb : b < w3.heap.size) => notin_own (r := (Value.slice Ao ko co).ownBlock) (fun g' hg => by have := (HO4.out.lt g' hg).1; omega : ∀ g', (Value.slice Ao ko co).ownBlock = some g' → b ≠ g')
                  have y0 := But.cells (D := (Value.slice Ao ko co).ownBlock.toList) h0 (HNT.out _ HLBF.out.1)
                  have y1 := But.cells (D := (Value.slice Ao ko co).ownBlock.toList) h1 (HNT.out _ HLBF.out.1)
                  have y2 := But.cells (D := (Value.slice Ao ko co).ownBlock.toList) d0 (HNT.out _ HLBF.out.2)
                  have y3 := But.cells (D := (Value.slice Ao ko co).ownBlock.toList) d1 (HNT.out _ HLBF.out.2)
                  have HBX := Lib.hid HX4.out.bel.size
                  go_wp2_with fail
                  refine (wpIn_wide (n := 3)).1 ?_
                  refine wpIn_region_steps (Value.slice Ao ko co).ownBlock.toList 9 [(0, true), (1, true), (2, true), (3, true), (4, true), (5, true), (6, true), (7, false), (8, false)] (by kernel_rfl) (by kernel_rfl) ?_
                  iterate 7 (refine wpSD_q (by rfl) (fun _ _ _ => trivial) (fun K hK => ?_); go_simp; refine hK _ ?_; clear hK K)
                  refine wpSD_m (by rfl) (fun _ _ _ => trivial) (fun δ K hK => ?_)
                  go_simp
                  refine ⟨((Ext.refl _).alloc _).but, hK _ _ ?_⟩
                  clear hK K
                  have Xd : Ext W4 δ.wd := ⟨δ, rfl⟩
                  refine EK.app_s (K := boolK) (B := w3.heap.size) (v := .slice Ao ko co) (by rfl) rfl (.tmp 101) (.tmp 108) rfl δ.wd.heap.size 1 false rfl rfl (fun i u hu => cell_new hu) (HO4.out.ext (Xd.alloc _)) (Nat.le_trans HBX.out (Xd.alloc _).bel.size) HLN.out ?_
                  intro v' w5 w6 o5 x5 g5
                  obtain ⟨Av3, kv3, cv3, rfl⟩ := o5.shape
                  refine wpSD_nil ?_
                  intro w7 x7
                  have HX7 := Lib.hid (show Ext w3 w7 from ((((HX4.out.trans Xd).alloc _).trans x5).below ((Below.refl w3.heap.size w5).grown g5 (Nat.le_trans HBX.out ((Xd.alloc _).trans x5).bel.size) (fun r e => (HO4.out.lt r e).1)) (Nat.le_refl _)).trans x7)
                  have HO7 := Lib.hid (show boolK.Own w3.heap.size w7 (.slice Av3 kv3 cv3) _ from o5.ext x7)
                  clear o5 x5 g5 x7 y0 y1 y2 y3 h0 h1 d0 d1 le ld Xd
                  simp only [List.drop_succ_cons, List.drop_zero]
                  gi_wp2
                  go_wp2_with fail
                  go_roundw
                  case rel => exact ⟨q + 1, by omega, by go_num, HAN, by rw [HST.out, HVA.out]; exact HO7.out, HX7.out⟩
                  case measure => simp [intOf]; omega
              by_cases hxq : x1 = q1 ∧ x2 = q2
              · obtain ⟨rfl, rfl⟩ := hxq
                have HVA := Lib.hid (show (xs[q] == highS xs) = true by rw [HXI.out, HHI.out]; simp)
                have HAN := Lib.hid (show (xs.take (q + 1)).all (oneOf xs) = true ∧ (q + 1 ≠ 0 → ¬ (l1 = x1 ∧ l2 = x2)) from ⟨by rw [HTK.out, oneOf, HXI.out, HHI.out]; simp, fun _ => HLQ.out⟩)
                rcases HLE.out with h | ⟨e1, e2, e3, e4⟩ | ⟨rfl, e1, e2, e3, e4⟩
                · exact absurd h hlh
                all_goals
                  clear hlh hxl
                  go_wp2_with fail
                  refine wp_region_bext (by kernel_rfl) (by kernel_rfl) ?_
                  repeat (any_goals (go_big_quiet_step (fail)))
                  all_goals refine wpQuiet_nil ?_
                  all_goals rintro _ ⟨δ, rfl⟩
                  have x4 : Ext wr δ.wd := ⟨δ, rfl⟩
                  have HX4 := Lib.hid (HX3.out.trans x4)
                  have HO4 := Lib.hid (HO.out.ext x4)
                  replace h0 := x4.cell_some h0
                  replace h1 := x4.cell_some h1
                  replace d0 := x4.cell_some d0
                  replace d1 := x4.cell_some d1
                  replace le := cell_lt h0
                  replace ld := cell_lt d0
                  generalize δ.wd = W4 at *
                  clear x4 c0 c1 lc
                  have HNT := Lib.hid fun (b : Nat) (hb : b < w3.heap.size) => notin_own (r := (Value.slice Ao ko co).ownBlock) (fun g' hg => by have := (HO4.out.lt g' hg).1; omega : ∀ g', (Value.slice Ao ko co).ownBlock = some g' → b ≠ g')
                  have y0 := But.cells (D := (Value.slice Ao ko co).ownBlock.toList) h0 (HNT.out _ HLBF.out.1)
                  have y1 := But.cells (D := (Value.slice Ao ko co).ownBlock.toList) h1 (HNT.out _ HLBF.out.1)
                  have y2 := But.cells (D := (Value.slice Ao ko co).ownBlock.toList) d0 (HNT.out _ HLBF.out.2)
                  have y3 := But.cells (D := (Value.slice Ao ko co).ownBlock.toList) d1 (HNT.out _ HLBF.out.2)
                  have HBX := Lib.hid HX4.out.bel.size
                  go_wp2_with fail
                  refine (wpIn_wide (n := 3)).1 ?_
                  refine wpIn_region_steps (Value.slice Ao ko co).ownBlock.toList 9 [(0, true), (1, true), (2, true), (3, true), (4, true), (5, true), (6, true), (7, false), (8, false)] (by kernel_rfl) (by kernel_rfl) ?_
                  iterate 7 (refine wpSD_q (by rfl) (fun _ _ _ => trivial) (fun K hK => ?_); go_simp; refine hK _ ?_; clear hK K)
                  refine wpSD_m (by rfl) (fun _ _ _ => trivial) (fun δ K hK => ?_)
                  go_simp
                  refine ⟨((Ext.refl _).alloc _).but, hK _ _ ?_⟩
                  clear hK K
                  have Xd : Ext W4 δ.wd := ⟨δ, rfl⟩
                  refine EK.app_s (K := boolK) (B := w3.heap.size) (v := .slice Ao ko co) (by rfl) rfl (.tmp 101) (.tmp 108) rfl δ.wd.heap.size 1 true rfl rfl (fun i u hu => cell_new hu) (HO4.out.ext (Xd.alloc _)) (Nat.le_trans HBX.out (Xd.alloc _).bel.size) HLN.out ?_
                  intro v' w5 w6 o5 x5 g5
                  obtain ⟨Av3, kv3, cv3, rfl⟩ := o5.shape
                  refine wpSD_nil ?_
                  intro w7 x7
                  have HX7 := Lib.hid (show Ext w3 w7 from ((((HX4.out.trans Xd).alloc _).trans x5).below ((Below.refl w3.heap.size w5).grown g5 (Nat.le_trans HBX.out ((Xd.alloc _).trans x5).bel.size) (fun r e => (HO4.out.lt r e).1)) (Nat.le_refl _)).trans x7)
                  have HO7 := Lib.hid (show boolK.Own w3.heap.size w7 (.slice Av3 kv3 cv3) _ from o5.ext x7)
                  clear o5 x5 g5 x7 y0 y1 y2 y3 h0 h1 d0 d1 le ld Xd
                  simp only [List.drop_succ_cons, List.drop_zero]
                  gi_wp2
                  go_wp2_with fail
                  go_roundw
                  case rel => exact ⟨q + 1, by omega, by go_num, HAN, by rw [HST.out, HVA.out]; exact HO7.out, HX7.out⟩
                  case measure => simp [intOf]; omega
              have HNX := Lib.hid (And.intro hxl hxq)
              have HF := Lib.hid (show readE xs = 6 by
                have : xs.all (oneOf xs) = false := List.all_eq_false.2 ⟨xs[q], List.getElem_mem hql, by
                  rw [oneOf, HXI.out, HLW.out, HHI.out]
                  simp only [Bool.or_eq_true, beq_iff_eq, Prod.mk.injEq]
                  exact fun h => h.elim HNX.out.1 HNX.out.2⟩
                rw [HE.out, twoB, this, Bool.and_false]
                rfl)
              have HF2 := Lib.hid (show readL xs = [] by rw [HLD.out, HF.out]; rfl)
              have HXL := Lib.hid (three x1 x2 l1 l2)
              have HXQ := Lib.hid (three x1 x2 q1 q2)
              rcases HXL.out with h | ⟨e1, e2, e3, e4⟩ | ⟨rfl, e1, e2, e3, e4⟩
              · exact absurd h hxl
              all_goals
                rcases HXQ.out with h | ⟨k1, k2, k3, k4⟩ | ⟨rfl, k1, k2, k3, k4⟩
                · exact absurd h hxq
                all_goals
                  clear hlh hxl hxq
                  go_wp2_with fail
                  refine wp_region_bext (by kernel_rfl) (by kernel_rfl) ?_
                  repeat (any_goals (go_big_quiet_step (fail)))
                  all_goals refine wpQuiet_nil ?_
                  all_goals rintro _ ⟨δ, rfl⟩
                  go_wp2_with fail
                  go_ret2
                  exact retEE_mkR (EK.Own.nil _ _) HF2.out HF.out (HXW.out.trans (HX3.out.trans ⟨δ, rfl⟩))
            · obtain rfl : q = i := by omega
              have hall : xs.all (oneOf xs) = true := by
                have := HA.out.1
                rwa [List.take_of_length_le (by rw [HN.out]; exact Nat.le_refl _)] at this
              have HF := Lib.hid (show readE xs = 0 by
                have hlh := HA.out.2 h0
                rw [HE.out, twoB, hall, HLW.out, HHI.out, Bool.and_true]
                have : ((l1, l2) == (q1, q2)) = false := by simpa using fun h => not_and.1 hlh h
                rw [this]
                rfl)
              have HF2 := Lib.hid (show readL xs = (xs.take q).map (· == highS xs) by rw [HLD.out, HF.out, if_pos rfl, List.take_of_length_le (by rw [HN.out]; exact Nat.le_refl _)])
              clear hx ho hall
              go_wp2_with fail
              go_ret2
              exact retEE_mkR (HO.out.mono HXW.out.bel.size) HF2.out HF.out (HXW.out.trans HX3.out)
end Go.Proofs.Ytlljhimaopnbfaa
