/- The reference's carved depths: reaches, deep. Conditions: bounds. -/
import Derived.Test.YtlljhimaopnbfaaLProf
import Derived.Test.YtlljhimaopnbfaaGRWk
import Derived.Test.YtlljhimaopnbfaaQDag
namespace Go.Proofs.Ytlljhimaopnbfaa
open Go.RowKit

structure Late (S : Prop) : Prop where
  out : S
theorem late {S G : Prop} (main : Late S → G) (p : S) : G := main ⟨p⟩

set_option maxRecDepth 100000 in
set_option maxHeartbeats 4000000 in
theorem reaches_any (q1 q2 tip num den bite slack : Int) (i : Nat) (w : World) (ht : 0 ≤ tip ∧ tip ≤ 100) (hn : 1 ≤ num ∧ num ≤ 100) (hd : 1 ≤ den ∧ den ≤ 100) (hi : i ≤ 100) (h1 : 0 ≤ q1 ∧ q1 ≤ 937024000000000000) (h2 : 1 ≤ q2 ∧ q2 ≤ 968000000) :
    Calls Try.prog 118 #[V2 q1 q2, toolV tip num den bite slack, .int .i64 i] w fun e w' => e = .returned (.bool (fitB (q1, q2) den (farAt tip num den i))) ∧ Ext w w' := by
  rw [← reach_fit h1.1 h2.1 hd.1]
  obtain ⟨⟨f1, f2⟩, ⟨f3, f4⟩, f5, f6⟩ := far_bd ht hn hd hi
  obtain ⟨s1, s2⟩ := mul_bd f5 f6 f5 f6
  have k1 : IntKind.i64.wrap (tip * den) = tip * den := IntWalk.i64_in _ (by omega)
  have k2 : IntKind.i64.wrap ((i : Int) * num) = (i : Int) * num := IntWalk.i64_in _ (by omega)
  obtain ⟨far, hfar⟩ : ∃ z, z = farAt tip num den i := ⟨_, rfl⟩
  have k3 : IntKind.i64.wrap (tip * den + (i : Int) * num) = far := by rw [hfar]; exact IntWalk.i64_in _ (by unfold farAt at f5 f6; omega)
  rw [← hfar] at s1 s2 ⊢
  have k4 : IntKind.i64.wrap (far * far) = far * far := IntWalk.i64_in _ (by omega)
  have hq0 : ¬ q2 = 0 := by omega
  have d1 : 0 ≤ q1 / q2 := Int.ediv_nonneg h1.1 (by omega)
  have d2 : q1 / q2 ≤ q1 := Int.ediv_le_self _ h1.1
  have r1 := Int.emod_nonneg q1 hq0
  have r2 := Int.emod_lt_of_pos q1 (show 0 < q2 by omega)
  have e1 : q1.tdiv q2 = q1 / q2 := Int.tdiv_eq_ediv_of_nonneg h1.1
  have e2 : q1.tmod q2 = q1 % q2 := Int.tmod_eq_emod_of_nonneg h1.1
  obtain ⟨wq, hwq⟩ : ∃ z, z = q1 / q2 := ⟨_, rfl⟩
  obtain ⟨r, hr⟩ : ∃ z, z = q1 % q2 := ⟨_, rfl⟩
  have g1 : q1 / q2 = wq := hwq.symm
  have g2 : q1 % q2 = r := hr.symm
  have g3 : q1.tdiv q2 = wq := e1.trans g1
  have g4 : q1.tmod q2 = r := e2.trans g2
  have g5 : IntKind.i64.wrap wq = wq := IntWalk.i64_in _ (by omega)
  rw [g1] at d1 d2
  rw [g2] at r1 r2
  have HRB := Lib.hid (show reachB q1 q2 den far = if far * far < wq ∨ far * far < wq * den * den then false else decide (r * den * den ≤ (far * far - wq * den * den) * q2) by unfold reachB; rw [g1, g2])
  generalize reachB q1 q2 den far = rb at *
  obtain ⟨m1, m2⟩ := mul_bd r1 (show r ≤ 968000000 by omega) (show 0 ≤ den by omega) hd.2
  obtain ⟨m3, m4⟩ := mul_bd m1 m2 (show 0 ≤ den by omega) hd.2
  have k5 : IntKind.i64.wrap (r * den) = r * den := IntWalk.i64_in _ (by omega)
  have k6 : IntKind.i64.wrap (r * den * den) = r * den * den := IntWalk.i64_in _ (by omega)
  have HD := Lib.hid hd
  have HQ2 := Lib.hid h2
  clear e1 e2 hwq hr hfar f1 f2 f3 f4 f5 f6 h1 m1 m2 m3 m4 r1 r2 ht hn hi hd h2
  by_cases hA : far * far < wq
  · have hA' : decide (far * far < wq) = true := decide_eq_true hA
    have HV := Lib.hid (show rb = false by rw [HRB.out, if_pos (.inl hA)])
    clear s1 s2 d1 d2
    go_enter Try.func118, Try.ntmps118
    go_wp2_with fail
    go_ret
    exact ⟨by rw [HV.out] <;> rfl, by (repeat' (first | with_reducible exact Ext.refl _ | with_reducible apply Ext.alloc | with_reducible apply Ext.drew | with_reducible apply Ext.drewN | with_reducible refine Ext.setCell ?_ ?_ _ | with_reducible apply Ext.step | with_reducible assumption | with_reducible exact Nat.le_refl _ | (simp; done) | (simp; omega)))⟩
  have hA' : decide (far * far < wq) = false := decide_eq_false hA
  obtain ⟨n1, n2⟩ := mul_bd d1 (show wq ≤ 400000000 by omega) (show 0 ≤ den by have := HD.out; omega) HD.out.2
  obtain ⟨n3, n4⟩ := mul_bd n1 n2 (show 0 ≤ den by have := HD.out; omega) HD.out.2
  have k7 : IntKind.i64.wrap (wq * den) = wq * den := IntWalk.i64_in _ (by omega)
  have k8 : IntKind.i64.wrap (wq * den * den) = wq * den * den := IntWalk.i64_in _ (by omega)
  by_cases hB : far * far < wq * den * den
  · have hB' : decide (far * far < wq * den * den) = true := decide_eq_true hB
    have HV := Lib.hid (show rb = false by rw [HRB.out, if_pos (.inr hB)])
    clear s1 s2 d1 d2 n1 n2 n3 n4
    go_enter Try.func118, Try.ntmps118
    go_wp2_with fail
    go_ret
    exact ⟨by rw [HV.out] <;> rfl, by (repeat' (first | with_reducible exact Ext.refl _ | with_reducible apply Ext.alloc | with_reducible apply Ext.drew | with_reducible apply Ext.drewN | with_reducible refine Ext.setCell ?_ ?_ _ | with_reducible apply Ext.step | with_reducible assumption | with_reducible exact Nat.le_refl _ | (simp; done) | (simp; omega)))⟩
  have hB' : decide (far * far < wq * den * den) = false := decide_eq_false hB
  have k9 : IntKind.i64.wrap (far * far - wq * den * den) = far * far - wq * den * den := IntWalk.i64_in _ (by omega)
  obtain ⟨u1, u2⟩ := mul_bd (show 0 ≤ far * far - wq * den * den by omega) (show far * far - wq * den * den ≤ 400000000 by omega) (show 0 ≤ q2 by have := HQ2.out; omega) HQ2.out.2
  have k10 : IntKind.i64.wrap ((far * far - wq * den * den) * q2) = (far * far - wq * den * den) * q2 := IntWalk.i64_in _ (by omega)
  have HV := Lib.hid (show rb = decide (r * den * den ≤ (far * far - wq * den * den) * q2) by rw [HRB.out, if_neg (fun h => h.elim hA hB)])
  clear s1 s2 d1 d2 n1 n2 n3 n4 u1 u2
  go_enter Try.func118, Try.ntmps118
  go_wp2_with fail
  try (have hs0 := δ.lt (w.heap.size) (by first | (simp; done) | (simp; omega)))
  try (have hs1 := δ.lt (w.heap.size + 1) (by first | (simp; done) | (simp; omega)))
  refine wp_region_bext (by kernel_rfl) (by kernel_rfl) ?_
  repeat (any_goals (go_big_quiet_step (fail)))
  all_goals refine wpQuiet_nil ?_
  all_goals rintro w' hw'
  all_goals obtain ⟨δ, rfl⟩ : Ext ((w.alloc (.cells #[.int .i64 q1, .int .i64 q2] 144)).alloc (.cells #[.int .i64 tip, .int .i64 num, .int .i64 den, .int .i64 bite, .int .i64 slack] 75)) w' := Ext.trans (by (repeat' (first | with_reducible exact Ext.refl _ | with_reducible apply Ext.alloc | with_reducible apply Ext.drew | with_reducible apply Ext.drewN | with_reducible refine Ext.setCell ?_ ?_ _ | with_reducible apply Ext.step | with_reducible assumption | with_reducible exact Nat.le_refl _ | (simp; done) | (simp; omega)))) hw'
  all_goals clear hw'
  go_wp2_with fail
  go_ret
  exact ⟨by rw [HV.out] <;> rfl, by (repeat' (first | with_reducible exact Ext.refl _ | with_reducible apply Ext.alloc | with_reducible apply Ext.drew | with_reducible apply Ext.drewN | with_reducible refine Ext.setCell ?_ ?_ _ | with_reducible apply Ext.step | with_reducible assumption | with_reducible exact Nat.le_refl _ | (simp; done) | (simp; omega)))⟩
/-- The square of a distance in a box. -/
structure SqBox (W : World) (b : Nat) (z1 z2 : Int) : Prop where
  c0 : W.cell? ⟨b, 0, none⟩ = some (.int .i64 z1)
  c1 : W.cell? ⟨b, 1, none⟩ = some (.int .i64 z2)
  f0 : W.frozen? ⟨b, 0, none⟩ = false
  f1 : W.frozen? ⟨b, 1, none⟩ = false
theorem SqBox.new (W : World) (z1 z2 : Int) : SqBox (W.alloc (.cells #[.int .i64 z1, .int .i64 z2] 144)) W.heap.size z1 z2 := ⟨cell_new rfl, cell_new rfl, by go_simp, by go_simp⟩
theorem SqBox.ext {W W' : World} {b : Nat} {z1 z2 : Int} (h : SqBox W b z1 z2) (x : Ext W W') : SqBox W' b z1 z2 := ⟨x.cell_some h.c0, x.cell_some h.c1, x.frozen h.c0 h.f0, x.frozen h.c1 h.f1⟩

set_option maxRecDepth 100000 in
set_option maxHeartbeats 8000000 in
theorem refDeepC_any (k : WkT) (v : Value) (q : Nat) (px py : Int) (w : World) (hI : CutsIs w v k.cuts) (hwb : workB k = true) (hq : q < k.cuts.length) (hl : lineB [(px, py)] = true) (hh : hiC k k.cuts[q] ≤ 100) :
    Calls Try.prog 91 #[k.val v, .int .i64 q, V2 px py] w fun e w' => e = .returned (.int .i64 (deepC k k.cuts[q] (px, py) : Int)) ∧ Ext w w' := by
  obtain ⟨htb, -, h16, hcut⟩ := workB_iff.1 hwb
  obtain ⟨⟨ht1, ht2⟩, ⟨hn1, hn2⟩, ⟨hd1, hd2⟩, -, ⟨hb1, hb2⟩, hsl1, hsl2⟩ := toolB_iff.1 htb
  have hcb := hcut _ (List.getElem_mem hq)
  obtain ⟨hlc, y1, y2⟩ := cutB_iff.1 hcb
  obtain ⟨z0, -⟩ := hi_bd htb hcb
  obtain ⟨hde, hdb1, hdb2⟩ := dist_bd hl hlc
  obtain ⟨A, c, rfl, -, -, hat⟩ := cutsIs_at hI
  obtain ⟨b, o, T, rfl, hb, d0, d1, -, hsp⟩ := hat q hq
  obtain ⟨T1, T2, T3⟩ := T
  simp only at d0
  obtain ⟨n, hn⟩ : ∃ n, n = k.cuts.length := ⟨_, rfl⟩
  have hqn : (q : Int) < (n : Int) := by omega
  rw [← hn]
  have HFA := Lib.hid fun (u : Value) (W : World) (x : Ext w W) (hu : spotK.Is W u [(px, py)]) => (show Calls Try.prog 117 #[u, .slice T1 T2 T3] W fun e w' => e = .returned (V2 (distP [(px, py)] k.cuts[q].1).1 (distP [(px, py)] k.cuts[q].1).2) ∧ Ext W w' from by
    have := refFar_any _ _ _ _ W hu (hsp.ext x) (lineB_len hl) (lineB_len hlc) (lineB_co hl) (lineB_co hlc)
    rwa [(far_eq (lineB_co hl) (lineB_co hlc)).2, ← hde] at this)
  have HHI := Lib.hid fun W : World => (show Calls Try.prog 90 #[toolV k.tip k.num k.den k.bite k.slack, .int .i64 k.cuts[q].2.1] W fun e w' => e = .returned (.int .i64 (hiC k k.cuts[q])) ∧ Ext W w' from refHigh_any k.tip k.num k.den k.bite k.slack k.cuts[q].2.1 W hb1 hb2 hsl1 hsl2 y1 y2)
  have HDC := Lib.hid (show deepC k k.cuts[q] (px, py) = depN (profL k.tip k.num k.den (hiC k k.cuts[q]).toNat) (distP [(px, py)] k.cuts[q].1) k.den from rfl)
  obtain ⟨N, hN⟩ : ∃ N : Nat, hiC k k.cuts[q] = (N : Int) := ⟨(hiC k k.cuts[q]).toNat, by omega⟩
  rw [hN] at HHI HDC hh
  rw [Int.toNat_natCast] at HDC
  obtain ⟨z1, hz1⟩ : ∃ z, z = (distP [(px, py)] k.cuts[q].1).1 := ⟨_, rfl⟩
  obtain ⟨z2, hz2⟩ : ∃ z, z = (distP [(px, py)] k.cuts[q].1).2 := ⟨_, rfl⟩
  have hzz : distP [(px, py)] k.cuts[q].1 = (z1, z2) := by rw [hz1, hz2]
  rw [hzz] at HDC
  rw [← hz1, ← hz2] at HFA
  rw [← hz1] at hdb1
  rw [← hz2] at hdb2
  generalize deepC k k.cuts[q] (px, py) = dc at *
  generalize k.cuts[q].2.1 = pr at *
  have HRE := Lib.hid fun (i : Nat) (hi : i ≤ 100) (W : World) => reaches_any z1 z2 k.tip k.num k.den k.bite k.slack i W ⟨ht1, ht2⟩ ⟨hn1, hn2⟩ ⟨hd1, hd2⟩ hi hdb1 hdb2
  have hN100 : N ≤ 100 := by omega
  clear hI hwb hq hl hh htb h16 hcut ht1 ht2 hn1 hn2 hd1 hd2 hb1 hb2 hsl1 hsl2 hcb hlc y1 y2 z0 hde hdb1 hdb2 hat hb hsp hn hN hz1 hz2 hzz
  go_enter Try.func91, Try.ntmps91
  go_wp2_with fail
  refine lay_wp (fun W => Ext w W ∧ W.cell? ⟨w.heap.size, 0, none⟩ = some (.int .i64 k.tip) ∧ W.cell? ⟨w.heap.size, 1, none⟩ = some (.int .i64 k.num) ∧ W.cell? ⟨w.heap.size, 2, none⟩ = some (.int .i64 k.den) ∧ W.cell? ⟨w.heap.size, 3, none⟩ = some (.int .i64 k.bite) ∧ W.cell? ⟨w.heap.size, 4, none⟩ = some (.int .i64 k.slack) ∧ W.cell? ⟨w.heap.size, 12, none⟩ = some (.slice (some ⟨b, o, none⟩) n c) ∧ W.cell? ⟨w.heap.size + 1, 0, none⟩ = some (.int .i64 px) ∧ W.cell? ⟨w.heap.size + 1, 1, none⟩ = some (.int .i64 py)) ⟨by (repeat' (first | with_reducible exact Ext.refl _ | with_reducible apply Ext.alloc | with_reducible apply Ext.drew | with_reducible apply Ext.drewN | with_reducible refine Ext.setCell ?_ ?_ _ | with_reducible apply Ext.step | with_reducible assumption | with_reducible exact Nat.le_refl _ | (simp; done) | (simp; omega))), by go_cell, by go_cell, by go_cell, by go_cell, by go_cell, by go_cell, by go_cell, by go_cell⟩ ?_
  rintro W0 ⟨x0, a0, a1, a2, a3, a4, a12, s0, s1⟩
  have HX0 := Lib.hid x0
  have HA := Lib.hid (And.intro a0 (And.intro a1 (And.intro a2 (And.intro a3 a4))))
  have HB := Lib.hid (And.intro a12 (And.intro s0 (And.intro s1 (And.intro (x0.cell_some d0) (x0.cell_some d1)))))
  clear x0 a0 a1 a2 a3 a4 a12 s0 s1 d0 d1
  refine late (S := ?lateS) ?lateM ?lateP
  case lateM =>
    intro HT
    obtain ⟨a12, s0, s1, d0, d1⟩ := HB.out
    have la := cell_lt a12
    have ls := cell_lt s0
    have ld := cell_lt d0
    refine (wpIn_wide (n := 3)).1 ?_
    refine wpIn_region_tree (B := W0.heap.size) 10 [0, 2, 3, 4, 5, 6, 7] (Nat.le_refl _) (by kernel_rfl) (by decide +kernel) ?_
    repeat (refine wpQ_step (by rfl) (fun _ _ _ => trivial) (fun K hK => ?_); go_simp; refine hK _ ?_; clear hK K)
    refine wpQ_nil ?_
    clear a12 s0 s1 d0 d1 la ls ld
    have HXT := Lib.hid (Ext.refl W0)
    change wpAnyT _ _ _ _ _ _ _ _ _ (2 + 1) _ _ _
    refine wpAnyT_step [1, 9] (by decide +kernel) (by decide) (by decide) ?_
    intro i hi
    simp only [List.mem_cons, List.not_mem_nil, or_false] at hi
    rcases hi with rfl | rfl
    · refine ⟨_, by rfl, midT_step (by rfl) (fun _ _ _ => trivial) (fun δ K' hK' => ?_)⟩
      have E1 := Lib.hid (show Ext _ δ.wd from ⟨δ, rfl⟩)
      have HX1 := Lib.hid (HXT.out.trans E1.out)
      go_simp
      refine ⟨((Below.refl _ _).alloc HX1.out.bel.size _), hK' _ _ ?_⟩
      have HS := Lib.hid (EK.Own.lit (K := spotK) (B := 0) δ.wd #[.int .i64 px, .int .i64 py] [(px, py)] rfl (Nat.zero_le _) (by simp [maxLen])).is
      have HXT := Lib.hid (HX1.out.alloc (.cells #[.int .i64 px, .int .i64 py] 76))
      obtain ⟨bs, hbs⟩ : ∃ bs, bs = δ.wd.heap.size := ⟨_, rfl⟩
      rw [← hbs] at HS ⊢
      clear hK' hbs
      refine wpAnyT_step [8, 9] (by decide +kernel) (by decide) (by decide) ?_
      intro i hi
      simp only [List.mem_cons, List.not_mem_nil, or_false] at hi
      rcases hi with rfl | rfl
      · refine ⟨_, by rfl, midT_step (by rfl) (fun _ _ _ => trivial) (fun δ K' hK' => ?_)⟩
        have E1 := Lib.hid (show Ext _ δ.wd from ⟨δ, rfl⟩)
        have HX1 := Lib.hid (HXT.out.trans E1.out)
        replace HS := Lib.hid (HS.out.ext E1.out)
        go_simp
        refine (callsIn_wide.2 (HFA.out _ δ.wd (HX0.out.trans HX1.out) HS.out)).mono ?_
        rintro e w3 ⟨rfl, x3⟩
        refine ⟨_, rfl, x3.belB HX1.out.bel.size, hK' _ _ ?_⟩
        have HXT := Lib.hid (HX1.out.trans x3)
        clear hK' x3 HS
        refine wpAnyT_step [9] (by decide +kernel) (by decide) (by decide) ?_
        intro i hi
        simp only [List.mem_cons, List.not_mem_nil, or_false] at hi
        subst hi
        refine ⟨_, by rfl, midT_step (by rfl) (fun _ _ _ => trivial) (fun δ K' hK' => ?_)⟩
        have E1 := Lib.hid (show Ext _ δ.wd from ⟨δ, rfl⟩)
        have HX1 := Lib.hid (HXT.out.trans E1.out)
        go_simp
        refine ⟨((Below.refl _ _).alloc HX1.out.bel.size _), hK' _ _ ?_⟩
        have HQ := Lib.hid (SqBox.new δ.wd 0 0)
        have HXT := Lib.hid (HX1.out.alloc (.cells #[.int .i64 0, .int .i64 0] 144))
        have HQB := Lib.hid (show W0.heap.size ≤ δ.wd.heap.size from HX1.out.bel.size)
        obtain ⟨bx, hbx⟩ : ∃ bx, bx = δ.wd.heap.size := ⟨_, rfl⟩
        rw [← hbx] at HQ HQB ⊢
        clear hK' hbx
        refine ⟨by decide +kernel, fun w4 x4 => ?_⟩
        replace HQ := Lib.hid (HQ.out.ext x4)
        have HX4 := Lib.hid (HXT.out.trans x4)
        have c0 := HQ.out.c0
        have c1 := HQ.out.c1
        have f0 := HQ.out.f0
        have f1 := HQ.out.f1
        have lx := cell_lt c0
        clear x4
        simp only [List.drop_succ_cons, List.drop_zero]
        gi_wp2
        refine lay_wp (fun W => Ext W0 W ∧ W.cell? ⟨bx, 0, none⟩ = some (.int .i64 z1) ∧ W.cell? ⟨bx, 1, none⟩ = some (.int .i64 z2)) ⟨(HX4.out.setCell (p := ⟨bx, 0, none⟩) HQB.out _).setCell (p := ⟨bx, 1, none⟩) HQB.out _, (set2 c0 c1 _ _).1, (set2 c0 c1 _ _).2⟩ ?_
        clear c0 c1 f0 f1 lx HX4 HQ HQB HXT
        revert bx
        revert bs
        exact HT.out
      · refine ⟨_, by rfl, midT_step (by rfl) (fun _ _ _ => trivial) (fun δ K' hK' => ?_)⟩
        have E1 := Lib.hid (show Ext _ δ.wd from ⟨δ, rfl⟩)
        have HX1 := Lib.hid (HXT.out.trans E1.out)
        replace HS := Lib.hid (HS.out.ext E1.out)
        go_simp
        refine ⟨((Below.refl _ _).alloc HX1.out.bel.size _), hK' _ _ ?_⟩
        have HQ := Lib.hid (SqBox.new δ.wd 0 0)
        have HXT := Lib.hid (HX1.out.alloc (.cells #[.int .i64 0, .int .i64 0] 144))
        replace HS := Lib.hid (HS.out.ext ((Ext.refl _).alloc (.cells #[.int .i64 0, .int .i64 0] 144)))
        have HQB := Lib.hid (show W0.heap.size ≤ δ.wd.heap.size from HX1.out.bel.size)
        obtain ⟨bx, hbx⟩ : ∃ bx, bx = δ.wd.heap.size := ⟨_, rfl⟩
        rw [← hbx] at HQ HQB ⊢
        clear hK' hbx
        refine wpAnyT_step [8] (by decide +kernel) (by decide) (by decide) ?_
        intro i hi
        simp only [List.mem_cons, List.not_mem_nil, or_false] at hi
        subst hi
        refine ⟨_, by rfl, midT_step (by rfl) (fun _ _ _ => trivial) (fun δ K' hK' => ?_)⟩
        have E1 := Lib.hid (show Ext _ δ.wd from ⟨δ, rfl⟩)
        have HX1 := Lib.hid (HXT.out.trans E1.out)
        replace HS := Lib.hid (HS.out.ext E1.out)
        replace HQ := Lib.hid (HQ.out.ext E1.out)
        go_simp
        refine (callsIn_wide.2 (HFA.out _ δ.wd (HX0.out.trans HX1.out) HS.out)).mono ?_
        rintro e w3 ⟨rfl, x3⟩
        refine ⟨_, rfl, x3.belB HX1.out.bel.size, hK' _ _ ?_⟩
        have HXT := Lib.hid (HX1.out.trans x3)
        replace HQ := Lib.hid (HQ.out.ext x3)
        clear hK' x3 HS
        refine ⟨by decide +kernel, fun w4 x4 => ?_⟩
        replace HQ := Lib.hid (HQ.out.ext x4)
        have HX4 := Lib.hid (HXT.out.trans x4)
        have c0 := HQ.out.c0
        have c1 := HQ.out.c1
        have f0 := HQ.out.f0
        have f1 := HQ.out.f1
        have lx := cell_lt c0
        clear x4
        simp only [List.drop_succ_cons, List.drop_zero]
        gi_wp2
        refine lay_wp (fun W => Ext W0 W ∧ W.cell? ⟨bx, 0, none⟩ = some (.int .i64 z1) ∧ W.cell? ⟨bx, 1, none⟩ = some (.int .i64 z2)) ⟨(HX4.out.setCell (p := ⟨bx, 0, none⟩) HQB.out _).setCell (p := ⟨bx, 1, none⟩) HQB.out _, (set2 c0 c1 _ _).1, (set2 c0 c1 _ _).2⟩ ?_
        clear c0 c1 f0 f1 lx HX4 HQ HQB HXT
        revert bx
        revert bs
        exact HT.out
    · refine ⟨_, by rfl, midT_step (by rfl) (fun _ _ _ => trivial) (fun δ K' hK' => ?_)⟩
      have E1 := Lib.hid (show Ext _ δ.wd from ⟨δ, rfl⟩)
      have HX1 := Lib.hid (HXT.out.trans E1.out)
      go_simp
      refine ⟨((Below.refl _ _).alloc HX1.out.bel.size _), hK' _ _ ?_⟩
      have HQ := Lib.hid (SqBox.new δ.wd 0 0)
      have HXT := Lib.hid (HX1.out.alloc (.cells #[.int .i64 0, .int .i64 0] 144))
      have HQB := Lib.hid (show W0.heap.size ≤ δ.wd.heap.size from HX1.out.bel.size)
      obtain ⟨bx, hbx⟩ : ∃ bx, bx = δ.wd.heap.size := ⟨_, rfl⟩
      rw [← hbx] at HQ HQB ⊢
      clear hK' hbx
      refine wpAnyT_step [1] (by decide +kernel) (by decide) (by decide) ?_
      intro i hi
      simp only [List.mem_cons, List.not_mem_nil, or_false] at hi
      subst hi
      refine ⟨_, by rfl, midT_step (by rfl) (fun _ _ _ => trivial) (fun δ K' hK' => ?_)⟩
      have E1 := Lib.hid (show Ext _ δ.wd from ⟨δ, rfl⟩)
      have HX1 := Lib.hid (HXT.out.trans E1.out)
      replace HQ := Lib.hid (HQ.out.ext E1.out)
      go_simp
      refine ⟨((Below.refl _ _).alloc HX1.out.bel.size _), hK' _ _ ?_⟩
      have HS := Lib.hid (EK.Own.lit (K := spotK) (B := 0) δ.wd #[.int .i64 px, .int .i64 py] [(px, py)] rfl (Nat.zero_le _) (by simp [maxLen])).is
      have HXT := Lib.hid (HX1.out.alloc (.cells #[.int .i64 px, .int .i64 py] 76))
      replace HQ := Lib.hid (HQ.out.ext ((Ext.refl _).alloc (.cells #[.int .i64 px, .int .i64 py] 76)))
      obtain ⟨bs, hbs⟩ : ∃ bs, bs = δ.wd.heap.size := ⟨_, rfl⟩
      rw [← hbs] at HS ⊢
      clear hK' hbs
      refine wpAnyT_step [8] (by decide +kernel) (by decide) (by decide) ?_
      intro i hi
      simp only [List.mem_cons, List.not_mem_nil, or_false] at hi
      subst hi
      refine ⟨_, by rfl, midT_step (by rfl) (fun _ _ _ => trivial) (fun δ K' hK' => ?_)⟩
      have E1 := Lib.hid (show Ext _ δ.wd from ⟨δ, rfl⟩)
      have HX1 := Lib.hid (HXT.out.trans E1.out)
      replace HS := Lib.hid (HS.out.ext E1.out)
      replace HQ := Lib.hid (HQ.out.ext E1.out)
      go_simp
      refine (callsIn_wide.2 (HFA.out _ δ.wd (HX0.out.trans HX1.out) HS.out)).mono ?_
      rintro e w3 ⟨rfl, x3⟩
      refine ⟨_, rfl, x3.belB HX1.out.bel.size, hK' _ _ ?_⟩
      have HXT := Lib.hid (HX1.out.trans x3)
      replace HQ := Lib.hid (HQ.out.ext x3)
      clear hK' x3 HS
      refine ⟨by decide +kernel, fun w4 x4 => ?_⟩
      replace HQ := Lib.hid (HQ.out.ext x4)
      have HX4 := Lib.hid (HXT.out.trans x4)
      have c0 := HQ.out.c0
      have c1 := HQ.out.c1
      have f0 := HQ.out.f0
      have f1 := HQ.out.f1
      have lx := cell_lt c0
      clear x4
      simp only [List.drop_succ_cons, List.drop_zero]
      gi_wp2
      refine lay_wp (fun W => Ext W0 W ∧ W.cell? ⟨bx, 0, none⟩ = some (.int .i64 z1) ∧ W.cell? ⟨bx, 1, none⟩ = some (.int .i64 z2)) ⟨(HX4.out.setCell (p := ⟨bx, 0, none⟩) HQB.out _).setCell (p := ⟨bx, 1, none⟩) HQB.out _, (set2 c0 c1 _ _).1, (set2 c0 c1 _ _).2⟩ ?_
      clear c0 c1 f0 f1 lx HX4 HQ HQB HXT
      revert bx
      revert bs
      exact HT.out
  case lateP =>
    intro bs bx W1 ⟨x1, q0, q1⟩
    have HX1 := Lib.hid x1
    have HQ := Lib.hid (And.intro q0 q1)
    have a0 := x1.cell_some HA.out.1
    have a1 := x1.cell_some HA.out.2.1
    have a2 := x1.cell_some HA.out.2.2.1
    have a3 := x1.cell_some HA.out.2.2.2.1
    have a4 := x1.cell_some HA.out.2.2.2.2
    have a12 := x1.cell_some HB.out.1
    have d1 := x1.cell_some HB.out.2.2.2.2
    have la := cell_lt a0
    have ld := cell_lt d1
    clear x1 q0 q1
    go_wp2_with fail
    refine wp_region_bext (by kernel_rfl) (by kernel_rfl) ?_
    repeat (any_goals (go_big_quiet_step ((go_at_call 90; exact bext_call (HHI.out _)))))
    all_goals refine wpQuiet_nil ?_
    all_goals rintro _ ⟨δ, rfl⟩
    have x2 : Ext W1 δ.wd := ⟨δ, rfl⟩
    have HX2 := Lib.hid (HX1.out.trans x2)
    have HQ2 := Lib.hid (And.intro (x2.cell_some HQ.out.1) (x2.cell_some HQ.out.2))
    have HA2 := Lib.hid (And.intro (x2.cell_some a0) (And.intro (x2.cell_some a1) (And.intro (x2.cell_some a2) (And.intro (x2.cell_some a3) (x2.cell_some a4)))))
    generalize δ.wd = W2 at *
    clear x2 a0 a1 a2 a3 a4 a12 d1 la ld
    go_wp2_with fail
    go_loopw [9] (fun iv wr => ∃ i : Nat, i ≤ N ∧ iv = .int .i64 ((N - i : Nat) : Int) ∧ Hid (∀ (j : Nat) (hj : j < (profL k.tip k.num k.den N).length), j < i → fitB (z1, z2) k.den (profL k.tip k.num k.den N)[j] = false) ∧ Ext W2 wr) (fun iv _ => (intOf iv).toNat)
    case atStart => exact ⟨0, by omega, by simp, Lib.hid (fun j hj h => by omega), Ext.refl _⟩
    case round =>
      obtain ⟨i, hi, rfl, HNF, hx⟩ := hrel
      have HX := Lib.hid hx
      obtain ⟨r, hr⟩ : ∃ r, r = N - i := ⟨_, rfl⟩
      have HRR := Lib.hid hr
      rw [← hr]
      by_cases hlt : i < N
      · have hr0 : 0 < r := by omega
        have hil : i < (profL k.tip k.num k.den N).length := by rw [profL_len]; exact hlt
        have HNX := Lib.hid fun (h : fitB (z1, z2) k.den (farAt k.tip k.num k.den i) = false) => (show ∀ (j : Nat) (hj : j < (profL k.tip k.num k.den N).length), j < i + 1 → fitB (z1, z2) k.den (profL k.tip k.num k.den N)[j] = false from fun j hj hji => by
          rcases (by omega : j < i ∨ j = i) with h5 | rfl
          · exact HNF.out j hj h5
          · rw [profL_at]; exact h)
        have HYS := Lib.hid fun (h : fitB (z1, z2) k.den (farAt k.tip k.num k.den i) = true) => (show dc = r from by
          have := dep_found hil (by rw [profL_at]; exact h) HNF.out
          rw [HDC.out, this, profL_len, hr])
        have HRI := Lib.hid (HRE.out i (by omega))
        have hw : IntKind.i64.wrap ((N : Int) - (r : Int)) = (i : Int) := (IntWalk.i64_in _ (by omega)).trans (by omega)
        have hw2 : IntKind.i64.wrap ((r : Int) - 1) = ((r - 1 : Nat) : Int) := (IntWalk.i64_in _ (by omega)).trans (by omega)
        have hr63 : r ≤ 100 := by omega
        have q0 := hx.cell_some HQ2.out.1
        have q1 := hx.cell_some HQ2.out.2
        have a0 := hx.cell_some HA2.out.1
        have a1 := hx.cell_some HA2.out.2.1
        have a2 := hx.cell_some HA2.out.2.2.1
        have a3 := hx.cell_some HA2.out.2.2.2.1
        have a4 := hx.cell_some HA2.out.2.2.2.2
        have la := cell_lt a0
        have lq := cell_lt q0
        generalize fitB (z1, z2) k.den (farAt k.tip k.num k.den i) = fb at *
        clear hx hr
        go_wp2_with fail
        refine (HRI.out _).mono ?_
        rintro e W3 ⟨rfl, x3⟩
        have HX3 := Lib.hid (HX.out.trans x3)
        clear x3 q0 q1 a0 a1 a2 a3 a4 la lq
        cases fb
        · have HNX2 := Lib.hid (HNX.out rfl)
          go_wp2_with fail
          go_roundw
          case rel => exact ⟨i + 1, by omega, by rw [show N - (i + 1) = r - 1 by have := HRR.out; omega], HNX2, HX3.out⟩
          case measure => simp [intOf]; omega
        · have HV := Lib.hid (HYS.out rfl)
          go_wp2_with fail
          go_ret
          exact ⟨by rw [HV.out] <;> rfl, HX0.out.trans (HX2.out.trans HX3.out)⟩
      · obtain rfl : i = N := by omega
        have hr0 : ¬ 0 < r := by omega
        have HV := Lib.hid (show dc = 0 by rw [HDC.out]; exact dep_none fun j hj => HNF.out j hj (by rw [profL_len] at hj; exact hj))
        clear hx hr
        go_wp2_with fail
        go_ret
        exact ⟨by rw [HV.out] <;> rfl, HX0.out.trans (HX2.out.trans HX.out)⟩
end Go.Proofs.Ytlljhimaopnbfaa
