/- GrooveEither: the law's walk. Condition: the work's cuts and the list read. -/
import Derived.Test.YtgeapenglcohfaaGEitP
import Derived.Test.YtgeapenglcohfaaGAlive
import Derived.Test.YtgeapenglcohfaaGGreat
import Derived.Deep.Cut
namespace Go.Proofs.Ytgeapenglcohfaa
open Go.RowKit

theorem ext_ofE {w : World} (δ : BExt w) : Ext w δ.wd := ⟨δ, rfl⟩

set_option maxRecDepth 100000 in
set_option maxHeartbeats 8000000 in
theorem lawEither_any (k : WkT) (v u : Value) (l : List Int) (w : World) (hI : CutsIs w v k.cuts) (hJ : IsI w u l) :
    Calls Try.prog 18 #[k.val v, u] w fun e w' => e = .returned (.bool true) ∧ Ext w w' := by
  have HAL := Lib.hid fun W : World => alive_any W
  have HG := Lib.hid fun (W : World) (x : Ext w W) => great_any k v W (hI.ext x)
  have HO := Lib.hid fun (W : World) (x : Ext w W) => order_any k v W (hI.ext x)
  have HLP := Lib.hid fun (W : World) (x : Ext w W) => loop_any k v W (hI.ext x)
  have HCO := Lib.hid fun (l' : List Int) (u' : Value) (W : World) (x : Ext w W) (h : IsI W u' l') => checkOrder_any k v u' l' W (hI.ext x) h
  have HCL := Lib.hid fun (l' : List Int) (u' : Value) (W : World) (x : Ext w W) (h : IsI W u' l') => checkLoop_any k v u' l' W (hI.ext x) h
  have HJ := Lib.hid fun (W : World) (x : Ext w W) => hJ.ext x
  have hnb : workB k = false → orderE k = 51 ∧ loopE k = 51 ∧ chkOE k l = 51 ∧ chkLE k l = 51 := fun h => either_no h l
  have hyb : workB k = true → _ := fun h => either h l
  have hfb : ∀ o s, workB k = true → _ := fun o s h h1 h2 => order_first (k := k) (o := o) (s := s) (other := l) h h1 h2
  obtain ⟨A, n, c, rfl⟩ : ∃ A n c, v = .slice A n c := by
    obtain ⟨A, c, h, -⟩ := cutsIs_at hI
    exact ⟨A, _, c, h⟩
  obtain ⟨A', m, c', rfl, -, hr, hmm⟩ := hJ.open_
  have HQ := Lib.hid hr
  have HLN := Lib.hid hr.len
  have hlen := hr.len
  clear hI hJ hr
  cases hg : greatK k
  case true =>
    rw [hg] at HG
    clear hg hnb hyb hfb hlen
    go_enter Try.func18, Try.ntmps18
    go_wp2_with fail
    refine (HAL.out _).mono ?_
    rintro e W0 ⟨rfl, x0⟩
    have HX0 := Lib.hid (show Ext w W0 from Ext.trans (by (repeat' (first | with_reducible exact Ext.refl _ | with_reducible apply Ext.alloc | with_reducible apply Ext.drew | with_reducible apply Ext.drewN | with_reducible refine Ext.setCell ?_ ?_ _ | with_reducible apply Ext.step | with_reducible assumption | with_reducible exact Nat.le_refl _ | (simp; done) | (simp; omega)))) x0)
    have HA0 := Lib.hid ((WkAt.new k (.slice A n c) w).ext x0)
    obtain ⟨h0, h1, h2, h3, h4, h5, h6, h7, h8, h9, h10, h11, h12⟩ := HA0.out
    have lh0 := cell_lt h0
    clear x0
    go_wp2_with fail
    refine (HG.out _ HX0.out).mono ?_
    rintro e W1 ⟨rfl, x1⟩
    have HX1 := Lib.hid (HX0.out.trans x1)
    clear x1 h0 h1 h2 h3 h4 h5 h6 h7 h8 h9 h10 h11 h12 lh0
    go_wp2_with fail
    go_ret
    exact ⟨rfl, HX1.out⟩
  rw [hg] at HG
  clear hg
  by_cases h40 : 40 < m
  · have h40i : (40 : Int) < (m : Int) := by omega
    clear hnb hyb hfb hlen h40
    go_enter Try.func18, Try.ntmps18
    go_wp2_with fail
    refine (HAL.out _).mono ?_
    rintro e W0 ⟨rfl, x0⟩
    have HX0 := Lib.hid (show Ext w W0 from Ext.trans (by (repeat' (first | with_reducible exact Ext.refl _ | with_reducible apply Ext.alloc | with_reducible apply Ext.drew | with_reducible apply Ext.drewN | with_reducible refine Ext.setCell ?_ ?_ _ | with_reducible apply Ext.step | with_reducible assumption | with_reducible exact Nat.le_refl _ | (simp; done) | (simp; omega)))) x0)
    have HA0 := Lib.hid ((WkAt.new k (.slice A n c) w).ext x0)
    obtain ⟨h0, h1, h2, h3, h4, h5, h6, h7, h8, h9, h10, h11, h12⟩ := HA0.out
    have lh0 := cell_lt h0
    clear x0
    go_wp2_with fail
    refine (HG.out _ HX0.out).mono ?_
    rintro e W1 ⟨rfl, x1⟩
    have HX1 := Lib.hid (HX0.out.trans x1)
    clear x1 h0 h1 h2 h3 h4 h5 h6 h7 h8 h9 h10 h11 h12 lh0
    go_wp2_with fail
    go_ret
    exact ⟨rfl, HX1.out⟩
  have h40i : ¬ (40 : Int) < (m : Int) := by omega
  have HCO1 := Lib.hid fun (W : World) (x : Ext w W) => HCO.out l (.slice A' m c') W x (HJ.out W x)
  have HCL1 := Lib.hid fun (W : World) (x : Ext w W) => HCL.out l (.slice A' m c') W x (HJ.out W x)
  have HLLN := Lib.hid (show (loopL k).length ≤ 100 ∨ True from .inr trivial)
  obtain ⟨asv, hasv⟩ : ∃ z, z = chkOE k l := ⟨_, rfl⟩
  obtain ⟨isv, hisv⟩ : ∃ z, z = chkLE k l := ⟨_, rfl⟩
  obtain ⟨ov, hov⟩ : ∃ z, z = orderE k := ⟨_, rfl⟩
  obtain ⟨lv, hlv⟩ : ∃ z, z = loopE k := ⟨_, rfl⟩
  rw [← hasv] at HCO1
  rw [← hisv] at HCL1
  rw [← hov] at HO
  rw [← hlv] at HLP
  have HV := Lib.hid (And.intro hasv (And.intro hisv (And.intro hov hlv)))
  have HNB := Lib.hid hnb
  have HYB := Lib.hid hyb
  have HFB := Lib.hid hfb
  clear h40 hlen hasv hisv hov hlv hnb hyb hfb
  simp only [WkT.val] at HCO1 HCL1
  go_enter Try.func18, Try.ntmps18
  go_wp2_with fail
  refine (HAL.out _).mono ?_
  rintro e W0 ⟨rfl, x0⟩
  have HX0 := Lib.hid (show Ext w W0 from Ext.trans (by (repeat' (first | with_reducible exact Ext.refl _ | with_reducible apply Ext.alloc | with_reducible apply Ext.drew | with_reducible apply Ext.drewN | with_reducible refine Ext.setCell ?_ ?_ _ | with_reducible apply Ext.step | with_reducible assumption | with_reducible exact Nat.le_refl _ | (simp; done) | (simp; omega)))) x0)
  have HA0 := Lib.hid ((WkAt.new k (.slice A n c) w).ext x0)
  obtain ⟨h0, h1, h2, h3, h4, h5, h6, h7, h8, h9, h10, h11, h12⟩ := HA0.out
  have lh0 := cell_lt h0
  clear x0
  go_wp2_with fail
  refine (HG.out _ HX0.out).mono ?_
  rintro e W1 ⟨rfl, x1⟩
  have HX1 := Lib.hid (HX0.out.trans x1)
  have HA1 := Lib.hid (HA0.out.ext x1)
  clear x1 h0 h1 h2 h3 h4 h5 h6 h7 h8 h9 h10 h11 h12 lh0
  obtain ⟨h0, h1, h2, h3, h4, h5, h6, h7, h8, h9, h10, h11, h12⟩ := HA1.out
  have lh0 := cell_lt h0
  go_wp2_with fail
  refine (HO.out _ HX1.out).mono ?_
  rintro e W2 ⟨u1, rfl, o1, x2⟩
  obtain ⟨P1, m1, q1, rfl⟩ := own_shapeW o1
  have HO1 := Lib.hid o1
  have HX2 := Lib.hid (HX1.out.trans x2)
  have HA2 := Lib.hid (HA1.out.ext x2)
  clear o1 x2 h0 h1 h2 h3 h4 h5 h6 h7 h8 h9 h10 h11 h12 lh0
  obtain ⟨h0, h1, h2, h3, h4, h5, h6, h7, h8, h9, h10, h11, h12⟩ := HA2.out
  have lh0 := cell_lt h0
  go_wp2_with fail
  refine (HLP.out _ HX2.out).mono ?_
  rintro e W3 ⟨u2, rfl, o2, x3⟩
  obtain ⟨P2, m2, q2, rfl⟩ := own_shapeW o2
  have HO2 := Lib.hid o2
  have HO1' := Lib.hid (HO1.out.ext x3)
  have HX3 := Lib.hid (HX2.out.trans x3)
  have HA3 := Lib.hid (HA2.out.ext x3)
  have D1 := Lib.hid fun (W : World) (x : Ext W3 W) => HCO1.out W (HX3.out.trans x)
  have D2 := Lib.hid fun (W : World) (x : Ext W3 W) => HCL1.out W (HX3.out.trans x)
  clear o2 x3 h0 h1 h2 h3 h4 h5 h6 h7 h8 h9 h10 h11 h12 lh0
  obtain ⟨h0, h1, h2, h3, h4, h5, h6, h7, h8, h9, h10, h11, h12⟩ := HA3.out
  have lh0 := cell_lt h0
  go_wp2_with fail
  refine wp_region_bext (by kernel_rfl) (by kernel_rfl) ?_
  repeat (any_goals (go_big_quiet_step ((first | (go_at_call 43; with_reducible exact bext_call (D1.out _ (ext_ofE _))) | (go_at_call 45; with_reducible exact bext_call (D2.out _ (ext_ofE _)))))))
  all_goals refine wpQuiet_nil ?_
  all_goals rintro w' hw'
  all_goals obtain ⟨δ, rfl⟩ : Ext (W3) w' := Ext.trans (by (repeat' (first | with_reducible exact Ext.refl _ | with_reducible apply Ext.alloc | with_reducible apply Ext.drew | with_reducible apply Ext.drewN | with_reducible refine Ext.setCell ?_ ?_ _ | with_reducible apply Ext.step | with_reducible assumption | with_reducible exact Nat.le_refl _ | (simp; done) | (simp; omega)))) hw'
  all_goals clear hw'
  have X4 := ext_ofE δ
  have HX4 := Lib.hid (HX3.out.trans X4)
  have HA4 := Lib.hid (HA3.out.ext X4)
  have HO14 := Lib.hid (HO1'.out.ext X4)
  have HO24 := Lib.hid (HO2.out.ext X4)
  have hm1 : m1 = (orderL k).length := by obtain ⟨_, _, he, _⟩ := HO1'.out.is; cases he; rfl
  have hm2 : m2 = (loopL k).length := by obtain ⟨_, _, he, _⟩ := HO2.out.is; cases he; rfl
  have HM := Lib.hid (And.intro hm1 hm2)
  clear hm1 hm2 X4 h0 h1 h2 h3 h4 h5 h6 h7 h8 h9 h10 h11 h12 lh0
  generalize δ.wd = W4 at *
  obtain ⟨v1, v2, v3, v4⟩ := HV.out
  cases hb : workB k
  · obtain ⟨n1, n2, n3, n4⟩ := HNB.out hb
    rw [n3] at v1
    rw [n4] at v2
    rw [n1] at v3
    rw [n2] at v4
    subst v1 v2 v3 v4
    clear n1 n2 n3 n4 hb
    go_wp2_with fail
    go_ret
    exact ⟨rfl, HX4.out⟩
  rcases HYB.out hb with ⟨o, s, e0, e1, e2, e3, e4, e5, e6, hord⟩ | ⟨r, e1, e2, e3, e4, e5, e6, e7⟩
  · rw [e5] at v2
    rw [e2] at v3
    rw [e4] at v4
    obtain ⟨hm1, hm2⟩ := HM.out
    rw [e3] at hm2
    rw [List.length_nil] at hm2
    subst v2 v3 v4 hm2
    have HC6 := Lib.hid fun (W : World) (x : Ext W4 W) => HCO.out (orderL k) (.slice P1 m1 q1) W (HX4.out.trans x) (intK_own.1 (HO14.out.ext x)).isI
    rw [e1] at hm1
    rw [e1, e6] at HC6
    simp only [WkT.val] at HC6
    have HFS := Lib.hid (HFB.out o s hb e0)
    have HM1 := Lib.hid hm1
    have HE1 := Lib.hid e1
    clear e0 e1 e2 e3 e4 e5 e6 hord hb hm1
    obtain ⟨h0, h1, h2, h3, h4, h5, h6, h7, h8, h9, h10, h11, h12⟩ := HA4.out
    have lh0 := cell_lt h0
    go_wp2_with fail
    refine (HC6.out _ (Ext.refl _)).mono ?_
    rintro e W5 ⟨rfl, x5⟩
    have HX5 := Lib.hid (HX4.out.trans x5)
    have HO15 := Lib.hid (HO14.out.ext x5)
    clear x5 h0 h1 h2 h3 h4 h5 h6 h7 h8 h9 h10 h11 h12 lh0
    by_cases has : asv = 0
    · subst has
      obtain ⟨f1, f2⟩ := HFS.out v1.symm
      have HF2 := Lib.hid f2
      have hmo : m1 = m := by rw [HM1.out, natsI_len, ← f1, HLN.out]
      have hol : m = o.length := by rw [← f1, HLN.out]
      subst hmo
      have HRO := Lib.hid (show ∀ i, i < m1 → ∃ b oo, P1 = some ⟨b, oo, none⟩ ∧ b < W5.heap.size ∧ W5.cell? ⟨b, oo + i, none⟩ = some (.int .i64 ((natsI o)[i]?.getD 0)) by
        obtain ⟨_, _, he, _, _, hro⟩ := (intK_own.1 HO15.out).isI
        rw [← HE1.out]
        cases he
        exact hro.at_)
      have HOL := Lib.hid hol
      clear f1 f2 v1 hol
      go_wp2_with fail
      go_loopw [111] (fun iv wr => ∃ i : Nat, i ≤ m1 ∧ iv = .int .i64 (i : Int) ∧ Hid (∀ j, j < i → (natsI o)[j]?.getD 0 = l[j]?.getD 0) ∧ Ext W5 wr) (fun iv _ => m1 - (intOf iv).toNat)
      case atStart => exact ⟨0, by omega, rfl, Lib.hid (fun j hj => by omega), Ext.refl _⟩
      case round =>
        obtain ⟨i, hi, rfl, HS, hx⟩ := hrel
        have HXW := Lib.hid hx
        clear hx
        by_cases hlt : i < m1
        · obtain ⟨b1, o1, rfl, _, c1⟩ := HRO.out i hlt
          obtain ⟨b2, o2, rfl, _, c2⟩ := HQ.out.at_ i hlt
          replace c1 := HXW.out.cell_some c1
          replace c2 := (HX5.out.trans HXW.out).cell_some c2
          have lc1 := cell_lt c1
          have lc2 := cell_lt c2
          have HF3 := Lib.hid fun h => HF2.out i (by rw [← HOL.out]; exact hlt) HS.out h
          have HS2 := Lib.hid fun (h : (natsI o)[i]?.getD 0 = l[i]?.getD 0) => show ∀ j, j < i + 1 → (natsI o)[j]?.getD 0 = l[j]?.getD 0 from fun j hj => by
            rcases (by omega : j < i ∨ j = i) with h1 | rfl
            · exact HS.out j h1
            · exact h
          generalize (natsI o)[i]?.getD 0 = y at *
          generalize l[i]?.getD 0 = z at *
          have hii : (i : Int) < (m1 : Int) := by omega
          by_cases hyz : y = z
          · have HS3 := Lib.hid (HS2.out hyz)
            have hb0 : (y != z) = false := by simpa using hyz
            clear hyz HS2 HF3
            go_wp2_with fail
            refine wp_region_bext (by kernel_rfl) (by kernel_rfl) ?_
            repeat (any_goals (go_big_quiet_step (fail)))
            all_goals refine wpQuiet_nil ?_
            all_goals rintro w' hw'
            all_goals obtain ⟨δ, rfl⟩ : Ext (wr) w' := Ext.trans (by (repeat' (first | with_reducible exact Ext.refl _ | with_reducible apply Ext.alloc | with_reducible apply Ext.drew | with_reducible apply Ext.drewN | with_reducible refine Ext.setCell ?_ ?_ _ | with_reducible apply Ext.step | with_reducible assumption | with_reducible exact Nat.le_refl _ | (simp; done) | (simp; omega)))) hw'
            all_goals clear hw'
            have HX6 := Lib.hid (HXW.out.trans (ext_ofE δ))
            go_wp2_with fail
            go_roundw
            case rel => exact ⟨i + 1, by omega, by go_num, HS3, HX6.out⟩
            case measure => simp [intOf]; omega
          · have hlt2 := HF3.out hyz
            have hb0 : (y != z) = true := by simpa using hyz
            clear hyz HS2 HF3
            go_wp2_with fail
            refine wp_region_bext (by kernel_rfl) (by kernel_rfl) ?_
            repeat (any_goals (go_big_quiet_step (fail)))
            all_goals refine wpQuiet_nil ?_
            all_goals rintro w' hw'
            all_goals obtain ⟨δ, rfl⟩ : Ext (wr) w' := Ext.trans (by (repeat' (first | with_reducible exact Ext.refl _ | with_reducible apply Ext.alloc | with_reducible apply Ext.drew | with_reducible apply Ext.drewN | with_reducible refine Ext.setCell ?_ ?_ _ | with_reducible apply Ext.step | with_reducible assumption | with_reducible exact Nat.le_refl _ | (simp; done) | (simp; omega)))) hw'
            all_goals clear hw'
            have HX6 := Lib.hid (HXW.out.trans (ext_ofE δ))
            replace c1 := (ext_ofE δ).cell_some c1
            replace c2 := (ext_ofE δ).cell_some c2
            replace lc1 := cell_lt c1
            replace lc2 := cell_lt c2
            generalize δ.wd = W6 at *
            go_wp2_with fail
            refine wp_region_bext (by kernel_rfl) (by kernel_rfl) ?_
            repeat (any_goals (go_big_quiet_step (fail)))
            all_goals refine wpQuiet_nil ?_
            all_goals rintro w' hw'
            all_goals obtain ⟨δ, rfl⟩ : Ext (W6) w' := Ext.trans (by (repeat' (first | with_reducible exact Ext.refl _ | with_reducible apply Ext.alloc | with_reducible apply Ext.drew | with_reducible apply Ext.drewN | with_reducible refine Ext.setCell ?_ ?_ _ | with_reducible apply Ext.step | with_reducible assumption | with_reducible exact Nat.le_refl _ | (simp; done) | (simp; omega)))) hw'
            all_goals clear hw'
            have HX7 := Lib.hid (HX6.out.trans (ext_ofE δ))
            go_wp2_with fail
            go_ret
            exact ⟨rfl, HX5.out.trans HX7.out⟩
        · go_wp2_with fail
          go_ret
          exact ⟨rfl, HX5.out.trans HXW.out⟩
    · have hasb : (asv != 0) = true := by simpa using has
      clear has v1
      go_wp2_with fail
      go_ret
      exact ⟨rfl, HX5.out⟩
  · rw [e5] at v1
    rw [e2] at v3
    rw [e4] at v4
    obtain ⟨hm1, hm2⟩ := HM.out
    rw [e3, natsI_len] at hm2
    subst v1 v3 v4
    have HC6 := Lib.hid fun (W : World) (x : Ext W4 W) => HCL.out (loopL k) (.slice P2 m2 q2) W (HX4.out.trans x) (intK_own.1 (HO24.out.ext x)).isI
    rw [e3, e6] at HC6
    simp only [WkT.val] at HC6
    have hcase : isv = 53 ∨ (isv = 0 ∧ m2 ≤ m) := by
      rcases e7 with h | ⟨h, h2⟩
      · exact .inl (v2.trans h)
      · exact .inr ⟨v2.trans h, by rw [hm2, ← HLN.out]; exact h2⟩
    clear e1 e2 e3 e4 e5 e6 e7 hb hm1 hm2 v2
    obtain ⟨h0, h1, h2, h3, h4, h5, h6, h7, h8, h9, h10, h11, h12⟩ := HA4.out
    have lh0 := cell_lt h0
    rcases hcase with rfl | ⟨rfl, hle⟩
    · go_wp2_with fail
      refine (HC6.out _ (Ext.refl _)).mono ?_
      rintro e W5 ⟨rfl, x5⟩
      have HX5 := Lib.hid (HX4.out.trans x5)
      clear x5 h0 h1 h2 h3 h4 h5 h6 h7 h8 h9 h10 h11 h12 lh0
      go_wp2_with fail
      go_ret
      exact ⟨rfl, HX5.out⟩
    · have hlei : (m2 : Int) ≤ (m : Int) := by omega
      clear hle
      go_wp2_with fail
      refine (HC6.out _ (Ext.refl _)).mono ?_
      rintro e W5 ⟨rfl, x5⟩
      have HX5 := Lib.hid (HX4.out.trans x5)
      clear x5 h0 h1 h2 h3 h4 h5 h6 h7 h8 h9 h10 h11 h12 lh0
      go_wp2_with fail
      go_ret
      exact ⟨rfl, HX5.out⟩
end Go.Proofs.Ytgeapenglcohfaa
