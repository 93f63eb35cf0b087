/- LightCarved: the law's walk. Condition: the cuts read as a list. -/
import Derived.Test.YtlljhimaopnbfaaLCarv
import Derived.Test.YtlljhimaopnbfaaLCdP
import Derived.Test.YtlljhimaopnbfaaGGreat
import Derived.Test.YtlljhimaopnbfaaLAliv
import Derived.Test.YtlljhimaopnbfaaLWkD
namespace Go.Proofs.Ytlljhimaopnbfaa
open Go.RowKit

theorem ifOk_zero {e x : Int} (h : e = 0) : ifOk e x = x := if_pos h

set_option maxRecDepth 100000 in
set_option maxHeartbeats 16000000 in
theorem lawCarved_any (k : WkT) (v : Value) (fx fy p Wd Ht : Int) (w : World) (hI : CutsIs w v k.cuts) :
    Calls Try.prog 19 #[k.val v, V2 fx fy, .int .i64 p, .int .i64 Wd, .int .i64 Ht] w fun e w' => e = .returned (.bool true) ∧ Ext w w' := by
  have HG := Lib.hid fun (W : World) (x : Ext w W) => great_any k v W (hI.ext x)
  have H1 := Lib.hid fun (W : World) (x : Ext w W) => Carve_any k v fx fy p Wd Ht W (hI.ext x)
  obtain ⟨A, c, rfl, -, ⟨hc1, hc2⟩, hat⟩ := cutsIs_at hI
  obtain ⟨n, hn⟩ : ∃ n, n = k.cuts.length := ⟨_, rfl⟩
  rw [← hn] at HG H1 hc1 ⊢
  have HN := Lib.hid hn
  have HAT := Lib.hid hat
  have hn63 : n ≤ 9223372036854775807 := by unfold maxLen at hc2; omega
  clear hI hat hn hc1 hc2
  have X0 := Lib.hid (show Ext w ((w.alloc (.cells #[.int .i64 k.tip, .int .i64 k.num, .int .i64 k.den, .int .i64 k.bite, .int .i64 k.slack, .int .i64 k.wall, .int .i64 k.deepest, .int .i64 k.play, .int .i64 k.fx, .int .i64 k.fy, .int .i64 k.fh, .int .i64 k.fd, .slice A n c] 79)).alloc (.cells #[.int .i64 fx, .int .i64 fy] 76)) from by (repeat' (first | with_reducible exact Ext.refl _ | with_reducible apply Ext.alloc | with_reducible apply Ext.drew | with_reducible apply Ext.drewN | with_reducible refine Ext.setCell ?_ ?_ _ | with_reducible apply Ext.step | with_reducible assumption | with_reducible exact Nat.le_refl _ | (simp; done) | (simp; omega))))
  have HWK0 := Lib.hid ((WkD.new k (.slice A n c) w).ext ((Ext.refl _).alloc (.cells #[.int .i64 fx, .int .i64 fy] 76)))
  cases hg : greatK k
  all_goals rw [hg] at HG; clear hg
  all_goals
    go_enter Try.func19, Try.ntmps19
    go_wp2_with fail
    refine (light_alive _).mono ?_
    rintro e w0 ⟨rfl, x0⟩
    have HS0 := Lib.hid (show w0.cell? ⟨w.heap.size + 1, 0, none⟩ = some (.int .i64 fx) ∧ w0.cell? ⟨w.heap.size + 1, 1, none⟩ = some (.int .i64 fy) from ⟨x0.cell_some (by go_cell), x0.cell_some (by go_cell)⟩)
    have HWK1 := Lib.hid (HWK0.out.ext x0)
    have HX0 := Lib.hid (X0.out.trans x0)
    clear x0 X0
    have hwk := HWK1.out.ext (Ext.refl w0)
    have c0 := hwk.c0
    have c1 := hwk.c1
    have c2 := hwk.c2
    have c3 := hwk.c3
    have c4 := hwk.c4
    have c5 := hwk.c5
    have c6 := hwk.c6
    have c7 := hwk.c7
    have c8 := hwk.c8
    have c9 := hwk.c9
    have c10 := hwk.c10
    have c11 := hwk.c11
    have c12 := hwk.c12
    have s0 := (Ext.refl w0).cell_some HS0.out.1
    have s1 := (Ext.refl w0).cell_some HS0.out.2
    have ls := cell_lt s0
    have lw := cell_lt c0
    clear hwk
    go_wp2_with fail
    refine (HG.out _ HX0.out).mono ?_
    rintro e w1 ⟨rfl, x1⟩
    have HS := Lib.hid (And.intro (x1.cell_some s0) (x1.cell_some s1))
    have HWK := Lib.hid (HWK1.out.ext x1)
    have HX1 := Lib.hid (HX0.out.trans x1)
    clear x1 HWK0 HWK1 HS0 HG
    clear c0 c1 c2 c3 c4 c5 c6 c7 c8 c9 c10 c11 c12 s0 s1 lw ls
  rotate_left
  · go_wp2_with fail
    go_ret
    exact ⟨rfl, HX1.out⟩
  have hwk := HWK.out.ext (Ext.refl w1)
  have c0 := hwk.c0
  have c1 := hwk.c1
  have c2 := hwk.c2
  have c3 := hwk.c3
  have c4 := hwk.c4
  have c5 := hwk.c5
  have c6 := hwk.c6
  have c7 := hwk.c7
  have c8 := hwk.c8
  have c9 := hwk.c9
  have c10 := hwk.c10
  have c11 := hwk.c11
  have c12 := hwk.c12
  have s0 := (Ext.refl w1).cell_some HS.out.1
  have s1 := (Ext.refl w1).cell_some HS.out.2
  have ls := cell_lt s0
  have lw := cell_lt c0
  clear hwk
  go_wp2_with fail
  refine (H1.out _ HX1.out).mono ?_
  rintro e w2 ⟨v1, rfl, o1, x2⟩
  clear c0 c1 c2 c3 c4 c5 c6 c7 c8 c9 c10 c11 c12 s0 s1 lw ls
  obtain ⟨B1, d1, rfl, -, -, hr1⟩ := o1.is
  have HX2 := Lib.hid (HX1.out.trans x2)
  have HY2 := Lib.hid x2
  have HO1 := Lib.hid o1.is
  clear H1 o1 x2
  by_cases hE : carveE k fx fy p Wd Ht = 0
  rotate_left
  · have hL : carveL k fx fy p Wd Ht = [] := if_neg hE
    rw [hL]
    clear hr1 HO1
    generalize carveE k fx fy p Wd Ht = er at *
    generalize ifOk er Wd = z1 at *
    generalize ifOk er Ht = z2 at *
    generalize ifOk er p = z3 at *
    simp only [List.length_nil]
    go_wp2_with fail
    go_ret
    exact ⟨rfl, HX2.out.trans (by (repeat' (first | with_reducible exact Ext.refl _ | with_reducible apply Ext.alloc | with_reducible apply Ext.drew | with_reducible apply Ext.drewN | with_reducible refine Ext.setCell ?_ ?_ _ | with_reducible apply Ext.step | with_reducible assumption | with_reducible exact Nat.le_refl _ | (simp; done) | (simp; omega))))⟩
  obtain ⟨hwb, hab, hlb, heb⟩ := carveE_zero.1 hE
  obtain ⟨⟨p1, p2⟩, ⟨p3, p4⟩, ⟨p5, p6⟩, ⟨p7, p8⟩, p9, p10⟩ := argsB_iff.1 hab
  rw [ifOk_zero hE, ifOk_zero hE, ifOk_zero hE]
  obtain ⟨W', hW'⟩ : ∃ W' : Nat, Wd = (W' : Int) := ⟨Wd.toNat, by omega⟩
  obtain ⟨H', hH'⟩ : ∃ H' : Nat, Ht = (H' : Int) := ⟨Ht.toNat, by omega⟩
  subst hW' hH'
  have hLe : carveL k fx fy p W' H' = carvL k fx fy p W' H' := by
    unfold carveL
    rw [if_pos hE, Int.toNat_natCast, Int.toNat_natCast]
  have hsf := carve_surf hE
  obtain ⟨L, hL⟩ : ∃ z, z = carvL k fx fy p W' H' := ⟨_, rfl⟩
  rw [hLe, ← hL] at HO1 hr1 ⊢
  rw [← hL] at hsf
  have hN5 := Nat.mul_le_mul (show W' ≤ 24 by omega) (show H' ≤ 24 by omega)
  obtain ⟨N, hNe⟩ : ∃ N, N = W' * H' := ⟨_, rfl⟩
  rw [← hNe] at hN5
  have hLl : L.length = N := by rw [hL, hNe]; simp [carvL]
  have HLA := Lib.hid fun (i : Nat) (hi : i < L.length) => (show L[i] = carvC k (pointC fx fy p W' i) by subst hL; simp [carvL])
  have HPL := Lib.hid fun (i : Nat) (hi : i < N) => point_line (fx := fx) (fy := fy) (p := p) (W := W') (H := H') (i := i) hab heb (by rw [← hNe]; exact hi)
  have HPB := Lib.hid fun (i : Nat) (hi : i < N) => point_in (fx := fx) (fy := fy) (p := p) (W := W') (H := H') (i := i) hab heb (by rw [← hNe]; exact hi)
  have HDU := Lib.hid fun (s : Int × Int) => deepUp_le (k := k) (s := s) hlb (j := k.cuts.length) (Nat.le_refl _)
  have HDM := Lib.hid fun (s : Int × Int) => deepUp_mem (k := k) (s := s) (j := k.cuts.length) (Nat.le_refl _)
  obtain ⟨htb, -, h16, hcut⟩ := workB_iff.1 hwb
  have HTB := Lib.hid htb
  have HCU := Lib.hid hcut
  have HLB := Lib.hid (List.all_eq_true.1 hlb)
  have HRW := Lib.hid hr1
  have HLL := Lib.hid hLl
  have HCK := Lib.hid fun (W : World) (x : Ext w2 W) => (show Calls Try.prog 29 #[surfV W' H' p (.slice B1 L.length d1)] W fun e w' => e = .returned (.int .i64 0) ∧ Ext W w' from by
    have := checkS_any W' H' p _ L W (HO1.out.ext x)
    rwa [hsf] at this)
  rw [hE]
  rw [hLl] at HCK ⊢
  have hW24 : W' ≤ 24 := by omega
  have hW1 : 1 ≤ W' := by omega
  clear hwb hab hlb heb hE hLe hsf hL hNe hLl hr1 HO1 htb hcut h16
  go_wp2_with fail
  refine lay_calls (fun W => Ext w2 W ∧ W.cell? ⟨w2.heap.size, 0, none⟩ = some (.int .i64 W') ∧ W.cell? ⟨w2.heap.size, 1, none⟩ = some (.int .i64 H') ∧ W.cell? ⟨w2.heap.size, 2, none⟩ = some (.int .i64 p) ∧ W.cell? ⟨w2.heap.size, 3, none⟩ = some (.slice B1 N d1)) ⟨by (repeat' (first | with_reducible exact Ext.refl _ | with_reducible apply Ext.alloc | with_reducible apply Ext.drew | with_reducible apply Ext.drewN | with_reducible refine Ext.setCell ?_ ?_ _ | with_reducible apply Ext.step | with_reducible assumption | with_reducible exact Nat.le_refl _ | (simp; done) | (simp; omega))), by go_cell, by go_cell, by go_cell, by go_cell⟩ ?_
  rintro W3 ⟨x3, a0, a1, a2, a3⟩
  refine (HCK.out _ x3).mono ?_
  rintro e w4 ⟨rfl, x4⟩
  have HX4 := Lib.hid (HX2.out.trans (x3.trans x4))
  have HY4 := Lib.hid (x3.trans x4)
  replace a0 := x4.cell_some a0
  replace a1 := x4.cell_some a1
  replace a2 := x4.cell_some a2
  replace a3 := x4.cell_some a3
  have la := cell_lt a0
  clear x3 x4
  go_wp2_with fail
  clear a0 a1 a2 a3 la
  go_loopw [77] (fun iv wr => ∃ i : Nat, i ≤ N ∧ iv = .int .i64 (i : Int) ∧ Ext w4 wr) (fun iv _ => N - (intOf iv).toNat)
  case atStart => exact ⟨0, by omega, rfl, Ext.refl _⟩
  case round =>
    obtain ⟨i, hi, rfl, hx⟩ := hrel
    have HXI := Lib.hid hx
    by_cases hlt : i < N
    · have hii : (i : Int) < (N : Int) := by omega
      have hil : i < L.length := by rw [HLL.out]; exact hlt
      obtain ⟨b1, q1, rfl, hb1, hq1⟩ := HRW.out i hil
      have e0 := (HY4.out.trans hx).cell_some (hq1 0 _ rfl)
      simp only [intK, Nat.mul_one, Nat.add_zero, HLA.out] at e0
      have le := cell_lt e0
      have hdu := HDU.out (pointC fx fy p W' i)
      have HDM2 := Lib.hid (HDM.out (pointC fx fy p W' i))
      unfold carvC at e0
      obtain ⟨dq, hdq⟩ : ∃ z, z = deepUp k (pointC fx fy p W' i) k.cuts.length := ⟨_, rfl⟩
      rw [← hdq] at e0 hdu HDM2
      clear hq1 hb1 hx hdq
      by_cases hd0 : dq = 0
      · subst hd0
        rw [show (-((0 : Nat) : Int)) = 0 from rfl] at e0
        go_wp2_with fail
        go_roundw
        case rel => exact ⟨i + 1, by omega, by go_num, HXI.out⟩
        case measure => simp [intOf]; omega
      · have hnz : ¬ (-(dq : Int)) = 0 := by omega
        have xs := HY2.out.trans (HY4.out.trans HXI.out)
        have s0 := xs.cell_some HS.out.1
        have s1 := xs.cell_some HS.out.2
        have ls := cell_lt s0
        clear xs
        go_wp2_with fail
        have y0 := But.cells (D := []) s0 (by simp)
        have y1 := But.cells (D := []) s1 (by simp)
        have hW0 : ¬ W' = 0 := by omega
        have e1 : (i : Int).tmod (W' : Int) = ((i % W' : Nat) : Int) := by rw [Int.tmod_eq_emod_of_nonneg (by omega)]; exact (Int.natCast_emod _ _).symm
        have e2 : (i : Int).tdiv (W' : Int) = ((i / W' : Nat) : Int) := by rw [Int.tdiv_eq_ediv_of_nonneg (by omega)]; exact (Int.natCast_ediv _ _).symm
        have hpb := HPB.out i hlt
        have hpl := HPL.out i hlt
        obtain ⟨px, hpx⟩ : ∃ z, z = fx + ((i % W' : Nat) : Int) * p := ⟨_, rfl⟩
        obtain ⟨py, hpy⟩ : ∃ z, z = fy + ((i / W' : Nat) : Int) * p := ⟨_, rfl⟩
        have hpt : pointC fx fy p W' i = (px, py) := by rw [hpx, hpy]; rfl
        rw [hpt] at hpb hpl HDM2
        simp only at hpb
        have q1 : IntKind.i64.wrap ((i : Int).tmod (W' : Int) * p) = ((i % W' : Nat) : Int) * p := by rw [e1]; exact IntWalk.i64_in _ (by omega)
        have q2 : IntKind.i64.wrap (fx + ((i % W' : Nat) : Int) * p) = px := by rw [← hpx]; exact IntWalk.i64_in _ (by omega)
        have q3 : IntKind.i64.wrap ((i : Int).tdiv (W' : Int) * p) = ((i / W' : Nat) : Int) * p := by rw [e2]; exact IntWalk.i64_in _ (by omega)
        have q4 : IntKind.i64.wrap (fy + ((i / W' : Nat) : Int) * p) = py := by rw [← hpy]; exact IntWalk.i64_in _ (by omega)
        have q5 : IntKind.i64.wrap ((i : Int).tdiv (W' : Int)) = (i : Int).tdiv (W' : Int) := by
          rw [e2]
          have hz := Nat.div_le_self i W'
          generalize i / W' = z at hz
          exact IntWalk.i64_in _ (by omega)
        have e3 : (i : Int) % (W' : Int) = ((i % W' : Nat) : Int) := (Int.natCast_emod _ _).symm
        have e4 : (i : Int) / (W' : Int) = ((i / W' : Nat) : Int) := (Int.natCast_ediv _ _).symm
        have r1 : IntKind.i64.wrap ((i : Int) % (W' : Int) * p) = (i : Int) % (W' : Int) * p := by rw [e3]; exact IntWalk.i64_in _ (by omega)
        have r2 : IntKind.i64.wrap (fx + (i : Int) % (W' : Int) * p) = px := by rw [e3, ← hpx]; exact IntWalk.i64_in _ (by omega)
        have r5 : IntKind.i64.wrap ((i : Int) / (W' : Int)) = (i : Int) / (W' : Int) := by
          rw [e4]
          have hz := Nat.div_le_self i W'
          generalize i / W' = z at hz
          exact IntWalk.i64_in _ (by omega)
        have r6 : IntKind.i64.wrap ((i : Int) / (W' : Int) * p) = (i : Int) / (W' : Int) * p := by rw [e4]; exact IntWalk.i64_in _ (by omega)
        have r7 : IntKind.i64.wrap (fy + (i : Int) / (W' : Int) * p) = py := by rw [e4, ← hpy]; exact IntWalk.i64_in _ (by omega)
        have HPI := Lib.hid hpl
        clear e3 e4
        clear e1 e2 hpb hpl hpx hpy hpt
        refine (wpIn_wide (n := 3)).1 ?_
        refine wpIn_region_steps [] 17 [(0, true), (1, true), (2, true), (3, true), (4, true), (5, true), (6, true), (7, true), (8, true), (9, true), (10, true), (11, true), (12, true), (13, true), (14, true), (15, true), (16, true)] (by kernel_rfl) (by kernel_rfl) ?_
        iterate 17 (refine wpSD_q (by rfl) (fun _ _ _ => trivial) (fun K hK => ?_); go_simp; refine hK _ ?_; clear hK K)
        refine wpSD_nil ?_
        intro W6 x6
        have HX6 := Lib.hid x6
        clear x6 y0 y1 s0 s1 ls q1 q2 q3 q4 q5 r1 r2 r5 r6 r7 e0 le
        simp only [List.drop_succ_cons, List.drop_zero]
        gi_wp2
        have hwk := HWK.out.ext (HY2.out.trans (HY4.out.trans (HXI.out.trans HX6.out)))
        have c12 := hwk.c12
        have l12 := cell_lt c12
        go_wp2_with fail
        refine lay_wp (fun W => Ext W6 W ∧ spotK.Is W (.slice (some ⟨W6.heap.size, 0, none⟩) 1 1) [(px, py)]) ⟨by (repeat' (first | with_reducible exact Ext.refl _ | with_reducible apply Ext.alloc | with_reducible apply Ext.drew | with_reducible apply Ext.drewN | with_reducible refine Ext.setCell ?_ ?_ _ | with_reducible apply Ext.step | with_reducible assumption | with_reducible exact Nat.le_refl _ | (simp; done) | (simp; omega))), (EK.Own.lit (K := spotK) (B := 0) W6 #[.int .i64 px, .int .i64 py] [(px, py)] rfl (Nat.zero_le _) (by simp [maxLen])).is⟩ ?_
        rintro W7 ⟨x7, hat7⟩
        have HX7 := Lib.hid (HXI.out.trans (HX6.out.trans x7))
        have HAT7 := Lib.hid hat7
        obtain ⟨b7, hb7⟩ : ∃ z, z = W6.heap.size := ⟨_, rfl⟩
        rw [← hb7] at HAT7 ⊢
        clear x7 hat7 hb7 c12 l12 hwk
        go_loopw [105, 17] (fun iv nv wr => ∃ (q : Nat) (nb : Bool), q ≤ n ∧ iv = .int .i64 (q : Int) ∧ nv = .bool nb ∧ Hid (∀ r (hr : r < k.cuts.length), r < q → deepC k k.cuts[r] (px, py) = dq → nb = true) ∧ Ext W7 wr) (fun iv _ _ => n - (intOf iv).toNat)
        case atStart => exact ⟨0, false, by omega, rfl, rfl, Lib.hid (fun r hr h => by omega), Ext.refl _⟩
        case round =>
          obtain ⟨q, nb, hq, rfl, rfl, HNB, hx⟩ := hrel
          have HXQ := Lib.hid hx
          by_cases hlq : q < n
          · have hql : q < k.cuts.length := by rw [← HN.out]; exact hlq
            have hqj : (q : Int) < (n : Int) := by omega
            obtain ⟨b, o, T, rfl, hb, d0, d1, d2, hsp⟩ := HAT.out q hql
            obtain ⟨T1, T2, T3⟩ := T
            simp only at d0
            have xw := HY2.out.trans (HY4.out.trans (HX7.out.trans hx))
            have x0 := HX1.out.trans xw
            replace d0 := x0.cell_some d0
            replace d1 := x0.cell_some d1
            replace d2 := x0.cell_some d2
            have ld := cell_lt d0
            have HSI := Lib.hid (hsp.ext x0)
            have HAI := Lib.hid (HAT7.out.ext hx)
            have hcb := HCU.out _ (List.getElem_mem hql)
            obtain ⟨hlc, y1, y2⟩ := cutB_iff.1 hcb
            have hih := HLB.out _ (List.getElem_mem hql)
            rw [decide_eq_true_eq] at hih
            have hi0 := (hi_bd HTB.out hcb).1
            obtain ⟨⟨ht1, ht2⟩, ⟨hn1, hn2⟩, ⟨hd1, hd2⟩, hnd, -, -⟩ := toolB_iff.1 HTB.out
            have hhf := half_bd (tip := k.tip) (num := k.num) (den := k.den) (d := hiC k k.cuts[q]) ht1 ht2 hn1 hnd hd1 hi0 hih
            have HDP := Lib.hid fun W : World => (show Calls Try.prog 59 #[toolV k.tip k.num k.den k.bite k.slack, .int .i64 k.cuts[q].2.1] W fun e w' => e = .returned (.tuple #[.int .i64 (depthLo k.tip k.num k.den k.bite k.slack k.cuts[q].2.1), .int .i64 (hiC k k.cuts[q]), .int .i64 0]) ∧ Ext W w' from by
              have := depth_any k.tip k.num k.den k.bite k.slack k.cuts[q].2.1 W
              have e1 : depthHi k.tip k.num k.den k.bite k.slack k.cuts[q].2.1 = hiC k k.cuts[q] := by
                unfold depthHi
                rw [HTB.out, inB_iff.2 ⟨y1, y2⟩]
                rfl
              have e2 : depthE k.tip k.num k.den k.bite k.slack k.cuts[q].2.1 = 0 := by
                unfold depthE
                rw [HTB.out, inB_iff.2 ⟨y1, y2⟩]
                rfl
              rwa [depthV, e1, e2] at this)
            have HHF := Lib.hid fun W : World => (show Calls Try.prog 60 #[toolV k.tip k.num k.den k.bite k.slack, .int .i64 (hiC k k.cuts[q])] W fun e w' => e = .returned (.tuple #[.int .i64 (halfOf k.tip k.num k.den (hiC k k.cuts[q])), .int .i64 0]) ∧ Ext W w' from by
              have := half_any k.tip k.num k.den k.bite k.slack (hiC k k.cuts[q]) W
              have e1 : halfN k.tip k.num k.den k.bite k.slack (hiC k k.cuts[q]) = halfOf k.tip k.num k.den (hiC k k.cuts[q]) := by
                unfold halfN
                rw [HTB.out, inB_iff.2 ⟨hi0, by omega⟩]
                rfl
              have e2 : halfE k.tip k.num k.den k.bite k.slack (hiC k k.cuts[q]) = 0 := by
                unfold halfE
                rw [HTB.out, inB_iff.2 ⟨hi0, by omega⟩]
                rfl
              rwa [halfV, e1, e2] at this)
            have HAP := Lib.hid fun (W : World) (x : Ext wr W) => (show Calls Try.prog 61 #[.slice (some ⟨b7, 0, none⟩) 1 1, .slice T1 T2 T3, .int .i64 (halfOf k.tip k.num k.den (hiC k k.cuts[q]) + 1)] W fun e w' => e = .returned (.tuple #[.bool (!nearB [(px, py)] k.cuts[q].1 (halfOf k.tip k.num k.den (hiC k k.cuts[q]) + 1)), .int .i64 0]) ∧ Ext W w' from by
              have := apart2_any _ _ _ _ (halfOf k.tip k.num k.den (hiC k k.cuts[q]) + 1) W (HAI.out.ext x) (HSI.out.ext x)
              have e1 : inB 0 30000 (halfOf k.tip k.num k.den (hiC k k.cuts[q]) + 1) = true := inB_iff.2 ⟨by omega, by omega⟩
              have e2 : apE [(px, py)] k.cuts[q].1 (halfOf k.tip k.num k.den (hiC k k.cuts[q]) + 1) = 0 := by
                unfold apE
                rw [HPI.out, hlc, e1]
                rfl
              have e3 : apB [(px, py)] k.cuts[q].1 (halfOf k.tip k.num k.den (hiC k k.cuts[q]) + 1) = !nearB [(px, py)] k.cuts[q].1 (halfOf k.tip k.num k.den (hiC k k.cuts[q]) + 1) := by
                unfold apB
                rw [HPI.out, hlc, e1]
                rfl
              rwa [e2, e3] at this)
            have HND := Lib.hid fun (h : deepC k k.cuts[q] (px, py) = dq) => (show nearB [(px, py)] k.cuts[q].1 (halfOf k.tip k.num k.den (hiC k k.cuts[q]) + 1) = true ∧ (dq : Int) ≤ hiC k k.cuts[q] from
              ⟨near_deep HTB.out HPI.out hlc (by omega), by
                have := deepC_le (k := k) (c := k.cuts[q]) (s := (px, py))
                omega⟩)
            have HNX := Lib.hid fun (nb' : Bool) (h1 : nb = true → nb' = true) (h2 : deepC k k.cuts[q] (px, py) = dq → nb' = true) => (show ∀ r (hr : r < k.cuts.length), r < q + 1 → deepC k k.cuts[r] (px, py) = dq → nb' = true from fun r hr h e => by
              rcases (by omega : r < q ∨ r = q) with h5 | rfl
              · exact h1 (HNB.out r hr h5 e)
              · exact h2 e)
            have hwk := HWK.out.ext xw
            have c0 := hwk.c0
            have c1 := hwk.c1
            have c2 := hwk.c2
            have c3 := hwk.c3
            have c4 := hwk.c4
            have lw := cell_lt c0
            have HTW := Lib.hid (And.intro c0 (And.intro c1 (And.intro c2 (And.intro c3 c4))))
            generalize nearB [(px, py)] k.cuts[q].1 (halfOf k.tip k.num k.den (hiC k k.cuts[q]) + 1) = nr at *
            generalize halfOf k.tip k.num k.den (hiC k k.cuts[q]) = hf at *
            generalize depthLo k.tip k.num k.den k.bite k.slack k.cuts[q].2.1 = lo at *
            generalize hiC k k.cuts[q] = high at *
            generalize k.cuts[q].2.1 = pr at *
            generalize k.cuts[q].2.2 = cr at *
            have w1' : IntKind.i64.wrap (hf + 1) = hf + 1 := IntWalk.i64_in _ (by omega)
            have w2' : IntKind.i64.wrap (-(-(dq : Int))) = (dq : Int) := by rw [Int.neg_neg]; exact IntWalk.i64_in _ (by omega)
            have HWR := Lib.hid (And.intro w1' w2')
            clear hx x0 xw hwk hcb hlc y1 y2 hb hsp hhf hi0 hih ht1 ht2 hn1 hn2 hd1 hd2 hnd c0 c1 c2 c3 c4 lw w1' w2'
            go_upto_region 18 with fail
            refine lay_wp (fun W => Ext wr W ∧ W.cell? ⟨wr.heap.size, 0, none⟩ = some (.slice T1 T2 T3) ∧ W.cell? ⟨wr.heap.size, 1, none⟩ = some (.int .i64 pr)) ⟨by (repeat' (first | with_reducible exact Ext.refl _ | with_reducible apply Ext.alloc | with_reducible apply Ext.drew | with_reducible apply Ext.drewN | with_reducible refine Ext.setCell ?_ ?_ _ | with_reducible apply Ext.step | with_reducible assumption | with_reducible exact Nat.le_refl _ | (simp; done) | (simp; omega))), by go_cell, by go_cell⟩ ?_
            rintro W8 ⟨x8, m0, m1⟩
            have HX8 := Lib.hid x8
            have lm := cell_lt m0
            obtain ⟨c0, c1, c2, c3, c4⟩ := HTW.out
            replace c0 := x8.cell_some c0
            replace c1 := x8.cell_some c1
            replace c2 := x8.cell_some c2
            replace c3 := x8.cell_some c3
            replace c4 := x8.cell_some c4
            have lw := cell_lt c0
            clear x8 d0 d1 d2 ld
            go_wp2_with fail
            refine (HDP.out _).mono ?_
            rintro e W9 ⟨rfl, x9⟩
            have HX9 := Lib.hid (HX8.out.trans x9)
            replace c0 := x9.cell_some c0
            replace c1 := x9.cell_some c1
            replace c2 := x9.cell_some c2
            replace c3 := x9.cell_some c3
            replace c4 := x9.cell_some c4
            replace lw := cell_lt c0
            replace m0 := x9.cell_some m0
            replace lm := cell_lt m0
            clear x9 m1
            go_wp2_with fail
            refine (HHF.out _).mono ?_
            rintro e W10 ⟨rfl, x10⟩
            have HX10 := Lib.hid (HX9.out.trans x10)
            replace m0 := x10.cell_some m0
            replace lm := cell_lt m0
            clear x10 c0 c1 c2 c3 c4 lw
            have w1' := HWR.out.1
            go_wp2_with fail
            refine (HAP.out _ HX10.out).mono ?_
            rintro e W11 ⟨rfl, x11⟩
            have HX11 := Lib.hid (HX10.out.trans x11)
            clear x11 m0 lm w1'
            have w2' := HWR.out.2
            cases nb
            · cases nr
              · have HQ := Lib.hid (HNX.out false (fun h => h) (fun h => absurd (HND.out h).1 Bool.false_ne_true))
                go_wp2_with fail
                go_roundw
                case rel => exact ⟨q + 1, false, by omega, by go_num, rfl, HQ, HXQ.out.trans HX11.out⟩
                case measure => simp [intOf]; omega
              · by_cases hle : (dq : Int) ≤ high
                · have hle' : decide ((dq : Int) ≤ high) = true := decide_eq_true hle
                  clear hle
                  go_wp2_with fail
                  go_roundw
                  case rel => exact ⟨q + 1, true, by omega, by go_num, rfl, Lib.hid (fun _ _ _ _ => rfl), HXQ.out.trans HX11.out⟩
                  case measure => simp [intOf]; omega
                · have hle' : decide ((dq : Int) ≤ high) = false := decide_eq_false hle
                  have HQ := Lib.hid (HNX.out false (fun h => h) (fun h => absurd (HND.out h).2 hle))
                  clear hle
                  go_wp2_with fail
                  go_roundw
                  case rel => exact ⟨q + 1, false, by omega, by go_num, rfl, HQ, HXQ.out.trans HX11.out⟩
                  case measure => simp [intOf]; omega
            · have HQ := Lib.hid (HNX.out true (fun _ => rfl) (fun _ => rfl))
              go_wp2_with fail
              go_roundw
              case rel => exact ⟨q + 1, true, by omega, by go_num, rfl, Lib.hid (fun _ _ _ _ => rfl), HXQ.out.trans HX11.out⟩
              case measure => simp [intOf]; omega
          · obtain rfl : q = n := by omega
            obtain ⟨r, hr, -, he⟩ := HDM2.out (by omega)
            obtain rfl := HNB.out r hr (by rw [HN.out]; exact hr) he
            have hng : ¬ (0 : Int) < -(dq : Int) := by omega
            have hng' : decide ((0 : Int) < -(dq : Int)) = false := decide_eq_false hng
            clear hng he hx
            go_wp2_with fail
            go_roundw
            case rel => exact ⟨i + 1, by omega, by go_num, HX7.out.trans HXQ.out⟩
            case measure => simp [intOf]; omega
    · obtain rfl : i = N := by omega
      go_wp2_with fail
      go_ret
      exact ⟨rfl, HX4.out.trans HXI.out⟩
end Go.Proofs.Ytlljhimaopnbfaa
