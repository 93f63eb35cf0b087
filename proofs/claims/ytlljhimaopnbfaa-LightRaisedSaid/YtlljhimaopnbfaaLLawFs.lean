/- LightFlashed: the law's walk. Condition: the heights and the lights read as lists. -/
import Derived.Test.YtlljhimaopnbfaaLLawHi
import Derived.Test.YtlljhimaopnbfaaLFlash
import Derived.Test.YtlljhimaopnbfaaLReadP
namespace Go.Proofs.Ytlljhimaopnbfaa
open Go.RowKit

theorem flashE_ok {W H P : Int} {hs : List Int} {ls : List (Int × Int × Int)} (h : flashE W H P hs ls = 0) : surfB W H P hs = true ∧ inB 1 8 ls.length = true ∧ ls.all lightB' = true := by
  unfold flashE at h
  split at h
  · rename_i h1
    split at h
    · rename_i h2
      split at h
      · rename_i h3
        exact ⟨h1, h2, h3⟩
      · cases h
    · cases h
  · cases h
theorem flashL_no {W H P : Int} {hs : List Int} {ls : List (Int × Int × Int)} (h : flashE W H P hs ls ≠ 0) : flashL W H P hs ls = [] := by
  unfold flashL
  rw [if_neg]
  intro h1
  rw [Bool.and_eq_true, Bool.and_eq_true] at h1
  apply h
  unfold flashE
  rw [if_pos h1.1.1, if_pos h1.1.2, if_pos h1.2]
theorem seen_frac {n m : Nat} {P : Int} {hs : List Int} {lx ly lz : Int} (hb : ∀ i, -100 ≤ hA hs i ∧ hA hs i ≤ 100) (hp : inB 1 100 P = true) (hl : lightB lx ly lz = true) (x y : Nat) : FracIs (seenC n m P hs lx ly lz x y).1 (seenC n m P hs lx ly lz x y).2 := by
  unfold seenC
  split
  · exact frac_zero
  · have h0 : -100 ≤ cor0 n hs x y ∧ cor0 n hs x y ≤ 100 := hb _
    have h1 : -100 ≤ cor1 n hs x y ∧ cor1 n hs x y ≤ 100 := hb _
    have h2 : -100 ≤ cor2 n hs x y ∧ cor2 n hs x y ≤ 100 := hb _
    have h3 : -100 ≤ cor3 n hs x y ∧ cor3 n hs x y ≤ 100 := hb _
    exact shade_frac (tiltB_iff.2 ⟨⟨by unfold tiltX; omega, by unfold tiltX; omega⟩, by unfold tiltY; omega, by unfold tiltY; omega⟩) hp hl
/-- The brightest light: none is brighter, and none before it as bright. -/
theorem best_spec {sh : Nat → Int × Int} : ∀ {n : Nat}, (∀ k, k < n → FracIs (sh k).1 (sh k).2) → ∀ k, k < n → leS (sh k) (sh (bestTo sh n)) ∧ (k < bestTo sh n → sh k ≠ sh (bestTo sh n))
  | 0, _, k, hk => by omega
  | n + 1, hF, k, hk => by
    have ih := best_spec (sh := sh) (n := n) (fun k h => hF k (by omega))
    by_cases hc : 0 < compareOf (sh n).1 (sh n).2 (sh (bestTo sh n)).1 (sh (bestTo sh n)).2
    · rw [best_yes hc]
      rcases Nat.eq_zero_or_pos n with h0 | h0
      · subst h0
        obtain rfl : k = 0 := by omega
        exact ⟨Int.le_refl _, fun h => by omega⟩
      have hb := bestTo_lt (sh := sh) (n := n) |>.2 h0
      have Fb := hF (bestTo sh n) (by omega)
      have Fn := hF n (by omega)
      rw [compare_frac Fn Fb] at hc
      have hlt : ltS (sh (bestTo sh n)) (sh n) := by
        unfold ltS
        split at hc
        · omega
        · split at hc
          · assumption
          · omega
      rcases (by omega : k < n ∨ k = n) with h | rfl
      · have h1 := (ih k h).1
        refine ⟨leS_trans (hF k (by omega)) Fb Fn h1 (Int.le_of_lt hlt), fun _ e => ?_⟩
        rw [e] at h1
        unfold leS at h1
        unfold ltS at hlt
        omega
      · exact ⟨Int.le_refl _, fun h => by omega⟩
    · rw [best_no hc]
      rcases Nat.eq_zero_or_pos n with h0 | h0
      · subst h0
        obtain rfl : k = 0 := by omega
        exact ⟨Int.le_refl _, fun h => by have := (bestTo_lt (sh := sh) (n := 0)).1; omega⟩
      have hb := bestTo_lt (sh := sh) (n := n) |>.2 h0
      have Fb := hF (bestTo sh n) (by omega)
      have Fn := hF n (by omega)
      rcases (by omega : k < n ∨ k = n) with h | rfl
      · exact ih k h
      · exact ⟨(compare_le Fn Fb).1 (by omega), fun h => by omega⟩

set_option maxRecDepth 100000 in
set_option maxHeartbeats 8000000 in
theorem lawFlashed_any (W H P : Int) (hv : Value) (hs : List Int) (lv : Value) (ls : List (Int × Int × Int)) (w : World) (hI : intK.Is w hv hs) (hL : lightK.Is w lv ls) :
    Calls Try.prog 16 #[surfV W H P hv, lv] w fun e w' => e = .returned (.bool true) ∧ Ext w w' := by
  have HAL := Lib.hid fun W : World => light_alive W
  have HGR := Lib.hid fun (W1 : World) (x : Ext w W1) => great_any W H P hv hs W1 (hI.ext x)
  have HFL := Lib.hid fun (W1 : World) (x : Ext w W1) => Flash_any W H P hv hs lv ls W1 (hI.ext x) (hL.ext x)
  have HPI := Lib.hid fun (lx ly lz : Int) (W1 : World) (x : Ext w W1) => Picture_any W H P hv hs lx ly lz W1 (hI.ext x)
  obtain ⟨A, L, c, rfl, -⟩ := hI.open_
  obtain ⟨A', k, c', rfl, hk, _, hr, hkm⟩ := hL.open_
  have HR := Lib.hid hr
  have HK := Lib.hid hk
  have X0 := Lib.hid (show Ext w (w.alloc (.cells #[.int .i64 W, .int .i64 H, .int .i64 P, .slice A L c] 37)) from by (repeat' (first | with_reducible exact Ext.refl _ | with_reducible apply Ext.alloc | with_reducible apply Ext.drew | with_reducible apply Ext.drewN | with_reducible refine Ext.setCell ?_ ?_ _ | with_reducible apply Ext.step | with_reducible assumption | with_reducible exact Nat.le_refl _ | (simp; done) | (simp; omega))))
  clear hI hL hr hk
  go_enter Try.func16, Try.ntmps16
  go_wp2_with fail
  refine (HAL.out _).mono ?_
  rintro e w1 ⟨rfl, x1⟩
  have HX1 := Lib.hid (X0.out.trans x1)
  have a0 : w1.cell? ⟨w.heap.size, 0, none⟩ = some (.int .i64 W) := x1.cell_some (by go_cell)
  have a1 : w1.cell? ⟨w.heap.size, 1, none⟩ = some (.int .i64 H) := x1.cell_some (by go_cell)
  have a2 : w1.cell? ⟨w.heap.size, 2, none⟩ = some (.int .i64 P) := x1.cell_some (by go_cell)
  have a3 : w1.cell? ⟨w.heap.size, 3, none⟩ = some (.slice A L c) := x1.cell_some (by go_cell)
  have la := cell_lt a0
  clear x1
  go_wp2_with fail
  refine (HGR.out _ HX1.out).mono ?_
  rintro e w2 ⟨rfl, x2⟩
  have HX2 := Lib.hid (HX1.out.trans x2)
  replace a0 := x2.cell_some a0
  replace a1 := x2.cell_some a1
  replace a2 := x2.cell_some a2
  replace a3 := x2.cell_some a3
  replace la := cell_lt a0
  clear x2
  by_cases hg : 700 < hs.length
  · have g1 : decide (700 < hs.length) = true := by simpa using hg
    clear hg
    go_wp2_with fail
    go_ret
    exact ⟨rfl, HX2.out⟩
  have g1 : decide (700 < hs.length) = false := by simpa using hg
  clear hg
  by_cases hk12 : 12 < k
  · have g2 : decide ((12 : Int) < (k : Int)) = true := by simp; omega
    clear hk12
    go_wp2_with fail
    go_ret
    exact ⟨rfl, HX2.out⟩
  have g2 : decide ((12 : Int) < (k : Int)) = false := by simp; omega
  clear hk12
  go_wp2_with fail
  refine (HFL.out _ HX2.out).mono ?_
  rintro e w3 ⟨fv, rfl, of, x3⟩
  have HX3 := Lib.hid (HX2.out.trans x3)
  replace a0 := x3.cell_some a0
  replace a1 := x3.cell_some a1
  replace a2 := x3.cell_some a2
  replace a3 := x3.cell_some a3
  replace la := cell_lt a0
  obtain ⟨Af, kf, cf, rfl, hkf, -⟩ := of.is.open_
  have HF3 := Lib.hid of.is
  clear x3 of
  by_cases he : flashE W H P hs ls = 0
  case neg =>
    have f1 : (flashE W H P hs ls != 0) = true := by simpa using he
    rw [flashL_no he] at hkf
    obtain rfl : kf = 0 := hkf.symm
    generalize flashE W H P hs ls = er at *
    clear he
    go_wp2_with fail
    go_ret
    exact ⟨rfl, HX3.out⟩
  obtain ⟨hsb, hlb, hla⟩ := flashE_ok he
  obtain ⟨n, m, rfl, rfl, hn1, hn2, hm3, hm4⟩ := surf_nm hsb
  have hmn := Nat.mul_le_mul hm4 hn2
  have HFB := Lib.hid (show flashL ((n : Int) + 1) ((m : Int) + 1) P hs ls = bestL (picsL n m P hs ls) (m * n) by unfold flashL; rw [hsb, hlb, hla, nOf_add, nOf_add]; rfl)
  have hkf2 : kf = m * n := by rw [← hkf, HFB.out]; simp [bestL]
  have HPB := Lib.hid fun (lx ly lz : Int) (h : lightB lx ly lz = true) => (show pictureL ((n : Int) + 1) ((m : Int) + 1) P hs lx ly lz = seenL n m P hs lx ly lz ∧ shadE ((n : Int) + 1) ((m : Int) + 1) P hs lx ly lz = 0 from ⟨by unfold pictureL; rw [hsb, h, nOf_add, nOf_add]; rfl, by unfold shadE; rw [if_pos hsb, if_pos h]⟩)
  have hall := (surfB_iff.1 hsb).2.2.2.2
  have hP : inB 1 100 P = true := inB_iff.2 (surfB_iff.1 hsb).2.2.1
  have HSP := Lib.hid fun (i : Nat) (hi : i < m * n) => best_spec (sh := shOf (picsL n m P hs ls) i) (n := ls.length) (fun q hq => by
    have h1 : q < (picsL n m P hs ls).length := by rw [picsL_len]; exact hq
    have h2 : i < (picsL n m P hs ls)[q].length := by rw [picsL_each]; exact hi
    rw [shOf_at h1 h2]
    have h3 : (picsL n m P hs ls)[q][i] = seenC n m P hs ls[q].1 ls[q].2.1 ls[q].2.2 (cx n i) (cy n i) := by simp [picsL, seenL]
    rw [h3]
    exact seen_frac (hA_bd hall) hP (List.all_eq_true.1 hla _ (List.getElem_mem hq)) _ _)
  have HFR := Lib.hid fun (i q : Nat) (hi : i < m * n) (hq : q < ls.length) => (show FracIs (shOf (picsL n m P hs ls) i q).1 (shOf (picsL n m P hs ls) i q).2 from by
    have h1 : q < (picsL n m P hs ls).length := by rw [picsL_len]; exact hq
    have h2 : i < (picsL n m P hs ls)[q].length := by rw [picsL_each]; exact hi
    rw [shOf_at h1 h2]
    have h3 : (picsL n m P hs ls)[q][i] = seenC n m P hs ls[q].1 ls[q].2.1 ls[q].2.2 (cx n i) (cy n i) := by simp [picsL, seenL]
    rw [h3]
    exact seen_frac (hA_bd hall) hP (List.all_eq_true.1 hla _ (List.getElem_mem hq)) _ _)
  have HLA := Lib.hid hla
  have hkb : 1 ≤ k ∧ k ≤ 8 := by have := inB_iff.1 hlb; rw [HK.out] at this; omega
  rw [he]
  subst hkf2
  clear he hsb hlb hla hall hP hkf HFL HGR
  go_wp2_with fail
  go_loopw [46, 8] (fun iv ov wr => ∃ j : Nat, j ≤ k ∧ iv = .int .i64 (j : Int) ∧ (∃ Ts, picK.Own w3.heap.size wr ov Ts ∧ Ts.length = j ∧ ∀ q (h : q < Ts.length) (h' : q < ls.length), shadeK.Own w3.heap.size wr (picV Ts[q]) (seenL n m P hs ls[q].1 ls[q].2.1 ls[q].2.2)) ∧ Ext w3 wr) (fun iv _ _ => k - (intOf iv).toNat)
  case atStart => exact ⟨0, by omega, rfl, ⟨[], EK.Own.nil _ _, rfl, fun q h => by simp at h⟩, Ext.refl _⟩
  case round =>
    obtain ⟨j, hj, rfl, ⟨Ts, ho, hT, hPs⟩, hx⟩ := hrel
    obtain ⟨Av, kv, cv, rfl, hkv, -⟩ := ho.is.open_
    obtain rfl : kv = j := by rw [← hkv, hT]
    have HX := Lib.hid hx
    have HO := Lib.hid ho
    have HT := Lib.hid hT
    have HP := Lib.hid hPs
    obtain ⟨wo, rfl⟩ : ∃ wo, wo = wr := ⟨wr, rfl⟩
    replace a0 := hx.cell_some a0
    replace a1 := hx.cell_some a1
    replace a2 := hx.cell_some a2
    replace a3 := hx.cell_some a3
    replace la := cell_lt a0
    by_cases hlt : kv < k
    · have hjl : kv < ls.length := by rw [HK.out]; exact hlt
      obtain ⟨b, o, rfl, hbb, h0, h1, h2⟩ := lightK_at HR.out kv hjl
      have g0 := (HX3.out.trans hx).cell_some h0
      have gg1 := (HX3.out.trans hx).cell_some h1
      have gg2 := (HX3.out.trans hx).cell_some h2
      have lg := cell_lt g0
      obtain ⟨pb1, pb2⟩ := HPB.out ls[kv].1 ls[kv].2.1 ls[kv].2.2 (List.all_eq_true.1 HLA.out _ (List.getElem_mem hjl))
      have HPC := Lib.hid fun (W1 : World) (x : Ext w W1) => (show Calls Try.prog 37 #[surfV ((n : Int) + 1) ((m : Int) + 1) P (.slice A L c), lightV ls[kv].1 ls[kv].2.1 ls[kv].2.2] W1 (RetEE shadeK W1 (seenL n m P hs ls[kv].1 ls[kv].2.1 ls[kv].2.2) 0) from by
        have := HPI.out ls[kv].1 ls[kv].2.1 ls[kv].2.2 W1 x
        rwa [pb1, pb2] at this)
      have HBB := Lib.hid (show w3.heap.size ≤ wo.heap.size from hx.bel.size)
      generalize hl1 : ls[kv].1 = lx at *
      generalize hl2 : ls[kv].2.1 = ly at *
      generalize hl3 : ls[kv].2.2 = lz at *
      have HL1 := Lib.hid (And.intro hl1 (And.intro hl2 hl3))
      clear h0 h1 h2 hx ho hT hPs hl1 hl2 hl3 pb1 pb2 hkv hbb
      go_wp2_with fail
      refine (HPC.out _ ((HX3.out.trans HX.out).trans (by (repeat' (first | with_reducible exact Ext.refl _ | with_reducible apply Ext.alloc | with_reducible apply Ext.drew | with_reducible apply Ext.drewN | with_reducible refine Ext.setCell ?_ ?_ _ | with_reducible apply Ext.step | with_reducible assumption | with_reducible exact Nat.le_refl _ | (simp; done) | (simp; omega)))))).mono ?_
      rintro e W2 ⟨pv, rfl, op, x2⟩
      obtain ⟨Ap, kp, cp, rfl, hkp, -⟩ := op.is.open_
      obtain rfl : kp = m * n := by rw [← hkp]; simp [seenL]
      have HX2 := Lib.hid (show Ext wo W2 from Ext.trans (by (repeat' (first | with_reducible exact Ext.refl _ | with_reducible apply Ext.alloc | with_reducible apply Ext.drew | with_reducible apply Ext.drewN | with_reducible refine Ext.setCell ?_ ?_ _ | with_reducible apply Ext.step | with_reducible assumption | with_reducible exact Nat.le_refl _ | (simp; done) | (simp; omega)))) x2)
      have HOP := Lib.hid (op.mono (Nat.le_trans HBB.out (by simp)))
      have z1 : (((m * n : Nat) : Int) != ((m * n : Nat) : Int)) = false := by simp
      clear x2 op hkp g0 gg1 gg2 lg a0 a1 a2 a3 la
      go_wp2_with (at_builtin; refine EK.app (K := picK) (B := w3.heap.size) rfl (.tmp 65) (.tmp 67) rfl W2.heap.size 1 (Ap, m * n, cp) rfl rfl (fun i u hu => cell_new hu) (HO.out.ext (HX2.out.alloc _)) (Nat.le_trans HBB.out (HX2.out.alloc _).bel.size) (by rw [HT.out]; omega) ?_; intro v' w5 o5 b5 g5; obtain ⟨Av3, kv3, cv3, rfl⟩ := o5.shape; have HO5 := Lib.hid o5; have HB5 := Lib.hid b5; have HG5 := Lib.hid g5; clear o5 b5 g5)
      go_roundw
      case rel =>
        refine ⟨kv + 1, by omega, by go_num, ⟨_, HO5.out, by simp [HT.out], fun q h h' => ?_⟩, (HX.out.trans (HX2.out.alloc _)).below HB5.out (Nat.le_refl _)⟩
        rw [List.length_append, HT.out, List.length_singleton] at h
        rcases (by omega : q < kv ∨ q = kv) with hq | rfl
        · rw [List.getElem_append_left (by rw [HT.out]; exact hq)]
          have h4 := (HP.out q (by rw [HT.out]; exact hq) h').ext (HX2.out.alloc (.cells #[.slice Ap (m * n) cp] 57))
          exact h4.kept HG5.out (own_ne h4 (HO.out.ext (HX2.out.alloc _)) (by decide))
        · rw [List.getElem_append_right (by rw [HT.out]; exact Nat.le_refl _)]
          simp only [HT.out, Nat.sub_self, List.getElem_singleton]
          obtain ⟨e1, e2, e3⟩ := HL1.out
          rw [e1, e2, e3]
          have h4 := HOP.out.ext ((Ext.refl W2).alloc (.cells #[.slice Ap (m * n) cp] 57))
          exact h4.kept HG5.out (own_ne h4 (HO.out.ext (HX2.out.alloc _)) (by decide))
      case measure => simp [intOf]; omega
    · obtain rfl : kv = k := by omega
      have HPP := Lib.hid (show PicIs wo (.slice Av kv cv) (picsL n m P hs ls) from ⟨Ts, ho.is, by rw [picsL, List.length_map, HT.out, HK.out], fun q h h' => by simpa [picsL] using (HP.out q h (by simpa [picsL] using h')).is⟩)
      clear hx ho hT hPs hkv a0 a1 a2 a3 la
      go_wp2_with fail
      go_loopw [72] (fun iv wr => ∃ i : Nat, i ≤ m * n ∧ iv = .int .i64 (i : Int) ∧ Ext wo wr) (fun iv _ => m * n - (intOf iv).toNat)
      case atStart => exact ⟨0, by omega, rfl, Ext.refl _⟩
      case round =>
        obtain ⟨i, hi, rfl, hx⟩ := hrel
        obtain ⟨wq, rfl⟩ : ∃ wq, wq = wr := ⟨wr, rfl⟩
        have HXI := Lib.hid hx
        by_cases hin : i < m * n
        · have hii : (i : Int) < ((m * n : Nat) : Int) := by omega
          obtain ⟨A2, c2, he2, _, _, hrow⟩ := HF3.out
          simp only [Value.slice.injEq] at he2
          obtain ⟨rfl, hln, -⟩ := he2
          obtain ⟨bf, of, rfl, -, fc⟩ := ints_at hrow i (by rw [← hln]; exact hin)
          have hval : (flashL ((n : Int) + 1) ((m : Int) + 1) P hs ls)[i]'(by rw [← hln]; exact hin) = ((bestTo (shOf (picsL n m P hs ls) i) kv : Nat) : Int) := by
            have : ∀ (zs : List Int) (h : flashL ((n : Int) + 1) ((m : Int) + 1) P hs ls = zs) (h1 : i < (flashL ((n : Int) + 1) ((m : Int) + 1) P hs ls).length) (h2 : i < zs.length), (flashL ((n : Int) + 1) ((m : Int) + 1) P hs ls)[i] = zs[i] := fun zs h h1 h2 => by subst h; rfl
            rw [this _ HFB.out _ (by simp [bestL]; exact hin)]
            simp [bestL, picsL_len, HK.out]
          rw [hval] at fc
          replace fc := ((HX.out).trans hx).cell_some fc
          have lf := cell_lt fc
          have HSI := Lib.hid (HSP.out i hin)
          have hbl := (bestTo_lt (sh := shOf (picsL n m P hs ls) i) (n := kv)).2 hkb.1
          rw [HK.out] at HSI
          obtain ⟨be, hbe⟩ : ∃ be, be = bestTo (shOf (picsL n m P hs ls) i) kv := ⟨_, rfl⟩
          rw [← hbe] at fc HSI hbl
          have gb1 : (be : Int) < (kv : Int) := by omega
          clear hbe hval hln hrow hx
          go_wp2_with fail
          go_loopw [87] (fun qv wr => ∃ q : Nat, q ≤ kv ∧ qv = .int .i64 (q : Int) ∧ Ext wq wr) (fun qv _ => kv - (intOf qv).toNat)
          case atStart => exact ⟨0, by omega, rfl, Ext.refl _⟩
          case round =>
            obtain ⟨q, hq, rfl, hx⟩ := hrel
            have HXQ := Lib.hid hx
            by_cases hqk : q < kv
            · have hqi : (q : Int) < (kv : Int) := by omega
              have hpl : (picsL n m P hs ls).length = kv := by rw [picsL_len, HK.out]
              have hq1 : q < (picsL n m P hs ls).length := by rw [hpl]; exact hqk
              have hq2 : be < (picsL n m P hs ls).length := by rw [hpl]; exact hbl
              have hi1 : i < (picsL n m P hs ls)[q].length := by rw [picsL_each]; exact hin
              have hi2 : i < (picsL n m P hs ls)[be].length := by rw [picsL_each]; exact hin
              obtain ⟨b1, o1, B1, O1, C1, rfl, -, -, p0, p1, p2⟩ := HPP.out.at_ hq1 hi1
              obtain ⟨b2, o2, B2, O2, C2, hA2, -, -, r0, r1, r2⟩ := HPP.out.at_ hq2 hi2
              cases hA2
              have X := HXI.out.trans hx
              replace p0 := X.cell_some p0
              replace p1 := X.cell_some p1
              replace p2 := X.cell_some p2
              replace r0 := X.cell_some r0
              replace r1 := X.cell_some r1
              replace r2 := X.cell_some r2
              rw [picsL_each] at p0 r0
              have lp0 := cell_lt p0
              have lp1 := cell_lt p1
              have lr1 := cell_lt r1
              have s1 := shOf_at hq1 hi1
              have s2 := shOf_at hq2 hi2
              have hFq := HFR.out i q hin (by rw [HK.out]; exact hqk)
              have hFb := HFR.out i be hin (by rw [HK.out]; exact hbl)
              obtain ⟨t1, t2⟩ := HSI.out q hqk
              rw [s1] at hFq t1 t2
              rw [s2] at hFb t1 t2
              have hcl := (compare_le hFq hFb).2 t1
              have HCZ := Lib.hid (compare_zero hFq hFb)
              have HNE := Lib.hid t2
              generalize (picsL n m P hs ls)[q][i] = x at *
              generalize (picsL n m P hs ls)[be][i] = y at *
              obtain ⟨x1, x2⟩ := x
              obtain ⟨y1, y2⟩ := y
              simp only at p1 p2 r1 r2 hcl HCZ
              have HCM := Lib.hid fun W : World => compare_any x1 x2 y1 y2 W
              generalize compareOf x1 x2 y1 y2 = cc at *
              have gc : decide (0 < cc) = false := by simp; omega
              clear hx X s1 s2 hFq hFb t1 t2 hq1 hq2 hi1 hi2 hpl
              by_cases hcc : cc = 0
              · have gz : (cc == 0) = true := by simpa using hcc
                have gq : decide ((q : Int) < (be : Int)) = false := by
                  simp only [decide_eq_false_iff_not]
                  intro h
                  obtain ⟨e1, e2⟩ := HCZ.out.1 hcc
                  exact HNE.out (by omega) (by rw [e1, e2])
                have gq' : ¬ q < be := by simpa using gq
                subst hcc
                go_wp2_with fail
                refine wp_region_bext (by kernel_rfl) (by kernel_rfl) ?_
                repeat (any_goals (go_big_quiet_step ((go_at_call 23; with_reducible exact bext_call (HCM.out _)))))
                all_goals refine wpQuiet_nil ?_
                all_goals rintro _ ⟨δ, rfl⟩
                have HX7 := Lib.hid (HXQ.out.trans (show Ext wr δ.wd from ⟨δ, rfl⟩))
                generalize δ.wd = W7 at *
                go_wp2_with fail
                go_roundw
                case rel => exact ⟨q + 1, by omega, by go_num, HX7.out⟩
                case measure => simp [intOf]; omega
              · have gz : (cc == 0) = false := by simpa using hcc
                clear hcc
                go_wp2_with fail
                refine wp_region_bext (by kernel_rfl) (by kernel_rfl) ?_
                repeat (any_goals (go_big_quiet_step ((go_at_call 23; with_reducible exact bext_call (HCM.out _)))))
                all_goals refine wpQuiet_nil ?_
                all_goals rintro _ ⟨δ, rfl⟩
                have HX7 := Lib.hid (HXQ.out.trans (show Ext wr δ.wd from ⟨δ, rfl⟩))
                generalize δ.wd = W7 at *
                go_wp2_with fail
                go_roundw
                case rel => exact ⟨q + 1, by omega, by go_num, HX7.out⟩
                case measure => simp [intOf]; omega
            · obtain rfl : q = kv := by omega
              clear hx
              go_wp2_with fail
              go_roundw
              case rel => exact ⟨i + 1, by omega, by go_num, HXI.out.trans HXQ.out⟩
              case measure => simp [intOf]; omega
        · obtain rfl : i = m * n := by omega
          clear hx
          go_wp2_with fail
          go_ret
          exact ⟨rfl, HX3.out.trans (HX.out.trans HXI.out)⟩
end Go.Proofs.Ytlljhimaopnbfaa
