/- LightMoved: the law's walk. Conditions: the cuts read as a list, and so do the spots of the one more. -/
import Derived.Test.YtlljhimaopnbfaaLCarv
import Derived.Test.YtlljhimaopnbfaaLMovM
import Derived.Test.YtlljhimaopnbfaaGGreat
import Derived.Test.YtlljhimaopnbfaaLAliv
import Derived.Test.YtlljhimaopnbfaaLWkD
import Derived.Deep.Cut
namespace Go.Proofs.Ytlljhimaopnbfaa
open Go.RowKit

theorem ifOk_zeroM {e x : Int} (h : e = 0) : ifOk e x = x := if_pos h
theorem mov_line {k : WkT} (h : workB k = true) {q : Nat} (hq : q < k.cuts.length) : (1 ≤ k.cuts[q].1.length ∧ k.cuts[q].1.length ≤ 12) ∧ ∀ t (ht : t < k.cuts[q].1.length), (-10000 ≤ k.cuts[q].1[t].1 ∧ k.cuts[q].1[t].1 ≤ 10000) ∧ -10000 ≤ k.cuts[q].1[t].2 ∧ k.cuts[q].1[t].2 ≤ 10000 := by
  have := (lineB_iff.1 (cutB_iff.1 ((workB_iff.1 h).2.2.2 _ (List.getElem_mem hq))).1)
  exact ⟨this.2, fun t ht => this.1 _ (List.getElem_mem ht)⟩
theorem box_otherM {α : Type} {K : EK α} {B b : Nat} {w w' : World} {v : Value} {xs : List α} {cs : Array Value} {T : TypeId} (hb : BoxAt b cs T w) (h : K.Own B w v xs) (hne : K.ty ≠ T) (hg : w.grownBy w' v.ownBlock) : BoxAt b cs T w' :=
  (hg.block b hb.lt (fun e => h.box_ne hb hne e.symm)).trans hb
theorem mul_bdM {a p : Int} (h1 : -50 ≤ a) (h2 : a ≤ 50) (h3 : 1 ≤ p) (h4 : p ≤ 100) : -5000 ≤ a * p ∧ a * p ≤ 5000 := by
  have e1 := Int.mul_le_mul_of_nonneg_right h1 (show 0 ≤ p by omega)
  have e2 := Int.mul_le_mul_of_nonneg_right h2 (show 0 ≤ p by omega)
  omega

set_option maxRecDepth 100000 in
set_option maxHeartbeats 16000000 in
theorem lawMoved_any (k : WkT) (v : Value) (fx fy p Wd Ht ri dn : Int) (A' : Option Addr) (m' c' : Nat) (pr : Int) (cr : Bool) (zs : List (Int × Int)) (w : World) (hI : CutsIs w v k.cuts) (hJ : spotK.Is w (.slice A' m' c') zs) :
    Calls Try.prog 18 #[k.val v, V2 fx fy, .int .i64 p, .int .i64 Wd, .int .i64 Ht, .int .i64 ri, .int .i64 dn, .agg #[.slice A' m' c', .int .i64 pr, .bool cr]] w fun e w' => e = .returned (.bool true) ∧ Ext w w' := by
  have HG := Lib.hid fun (W : World) (x : Ext w W) => great_any k v W (hI.ext x)
  have H1 := Lib.hid fun (W : World) (x : Ext w W) => Carve_any k v fx fy p Wd Ht W (hI.ext x)
  have HIX := Lib.hid fun (W : World) (x : Ext w W) => hI.ext x
  have HJX := Lib.hid fun (W : World) (x : Ext w W) => hJ.ext x
  obtain ⟨A, c, rfl, -, ⟨hc1, hc2⟩, -⟩ := cutsIs_at hI
  obtain ⟨n, hn⟩ : ∃ n, n = k.cuts.length := ⟨_, rfl⟩
  rw [← hn] at HG H1 hc1 HIX ⊢
  have HN := Lib.hid hn
  have hn63 : n ≤ 9223372036854775807 := by unfold maxLen at hc2; omega
  have hm63 : m' ≤ 9223372036854775807 := by
    obtain ⟨_, _, he, _, hc, _⟩ := hJ
    cases he
    have h1 := hc.1
    have h2 := hc.2
    unfold maxLen at h2
    omega
  clear hI hJ hn hc1 hc2
  have X0 := Lib.hid (show Ext w (((w.alloc (.cells #[.int .i64 k.tip, .int .i64 k.num, .int .i64 k.den, .int .i64 k.bite, .int .i64 k.slack, .int .i64 k.wall, .int .i64 k.deepest, .int .i64 k.play, .int .i64 k.fx, .int .i64 k.fy, .int .i64 k.fh, .int .i64 k.fd, .slice A n c] 79)).alloc (.cells #[.int .i64 fx, .int .i64 fy] 76)).alloc (.cells #[.slice A' m' c', .int .i64 pr, .bool cr] 106)) from by (repeat' (first | with_reducible exact Ext.refl _ | with_reducible apply Ext.alloc | with_reducible apply Ext.drew | with_reducible apply Ext.drewN | with_reducible refine Ext.setCell ?_ ?_ _ | with_reducible apply Ext.step | with_reducible assumption | with_reducible exact Nat.le_refl _ | (simp; done) | (simp; omega))))
  have HWK0 := Lib.hid ((WkD.new k (.slice A n c) w).ext (((Ext.refl _).alloc (.cells #[.int .i64 fx, .int .i64 fy] 76)).alloc (.cells #[.slice A' m' c', .int .i64 pr, .bool cr] 106)))
  cases hg : greatK k
  all_goals rw [hg] at HG; clear hg
  all_goals
    go_enter Try.func18, Try.ntmps18
    go_wp2_with fail
    refine (light_alive _).mono ?_
    rintro e w0 ⟨rfl, x0⟩
    have HS0 := Lib.hid (show w0.cell? ⟨w.heap.size + 1, 0, none⟩ = some (.int .i64 fx) ∧ w0.cell? ⟨w.heap.size + 1, 1, none⟩ = some (.int .i64 fy) ∧ w0.cell? ⟨w.heap.size + 1 + 1, 0, none⟩ = some (.slice A' m' c') ∧ w0.cell? ⟨w.heap.size + 1 + 1, 1, none⟩ = some (.int .i64 pr) ∧ w0.cell? ⟨w.heap.size + 1 + 1, 2, none⟩ = some (.bool cr) from ⟨x0.cell_some (by go_cell), x0.cell_some (by go_cell), x0.cell_some (by go_cell), x0.cell_some (by go_cell), x0.cell_some (by go_cell)⟩)
    have HWK1 := Lib.hid (HWK0.out.ext x0)
    have HX0 := Lib.hid (X0.out.trans x0)
    clear x0 X0
    have hwk := HWK1.out.ext (Ext.refl w0)
    have c0 := hwk.c0
    have c1 := hwk.c1
    have c2 := hwk.c2
    have c3 := hwk.c3
    have c4 := hwk.c4
    have c5 := hwk.c5
    have c6 := hwk.c6
    have c7 := hwk.c7
    have c8 := hwk.c8
    have c9 := hwk.c9
    have c10 := hwk.c10
    have c11 := hwk.c11
    have c12 := hwk.c12
    have s0 := (Ext.refl w0).cell_some HS0.out.1
    have s1 := (Ext.refl w0).cell_some HS0.out.2.1
    have m0 := (Ext.refl w0).cell_some HS0.out.2.2.1
    have m1 := (Ext.refl w0).cell_some HS0.out.2.2.2.1
    have m2 := (Ext.refl w0).cell_some HS0.out.2.2.2.2
    have ls := cell_lt s0
    have lw := cell_lt c0
    have lm := cell_lt m0
    clear hwk
    go_wp2_with fail
    refine (HG.out _ HX0.out).mono ?_
    rintro e w1 ⟨rfl, x1⟩
    have HS := Lib.hid (And.intro (x1.cell_some s0) (And.intro (x1.cell_some s1) (And.intro (x1.cell_some m0) (And.intro (x1.cell_some m1) (x1.cell_some m2)))))
    have HWK := Lib.hid (HWK1.out.ext x1)
    have HX1 := Lib.hid (HX0.out.trans x1)
    clear x1 HWK0 HWK1 HS0 HG
    clear c0 c1 c2 c3 c4 c5 c6 c7 c8 c9 c10 c11 c12 s0 s1 m0 m1 m2 lw ls lm
  rotate_left
  · go_wp2_with fail
    go_ret
    exact ⟨rfl, HX1.out⟩
  have hwk := HWK.out.ext (Ext.refl w1)
  have c0 := hwk.c0
  have c1 := hwk.c1
  have c2 := hwk.c2
  have c3 := hwk.c3
  have c4 := hwk.c4
  have c5 := hwk.c5
  have c6 := hwk.c6
  have c7 := hwk.c7
  have c8 := hwk.c8
  have c9 := hwk.c9
  have c10 := hwk.c10
  have c11 := hwk.c11
  have c12 := hwk.c12
  have s0 := (Ext.refl w1).cell_some HS.out.1
  have s1 := (Ext.refl w1).cell_some HS.out.2.1
  have m0 := (Ext.refl w1).cell_some HS.out.2.2.1
  have m1 := (Ext.refl w1).cell_some HS.out.2.2.2.1
  have m2 := (Ext.refl w1).cell_some HS.out.2.2.2.2
  have ls := cell_lt s0
  have lw := cell_lt c0
  have lm := cell_lt m0
  clear hwk
  by_cases hgd : m' ≤ 20 ∧ -50 ≤ ri ∧ ri ≤ 50 ∧ -50 ≤ dn ∧ dn ≤ 50
  rotate_left
  · go_wp2_with fail
    all_goals first
      | (exfalso; omega)
      | (go_ret; exact ⟨rfl, HX1.out⟩)
  obtain ⟨g1, g2, g3, g4, g5⟩ := hgd
  have g1n : ¬ 20 < m' := by omega
  have g1i : ¬ (20 : Int) < (m' : Int) := by omega
  have g2n : ¬ ri < -50 := by omega
  have g3n : ¬ 50 < ri := by omega
  have g4n : ¬ dn < -50 := by omega
  have g5n : ¬ 50 < dn := by omega
  go_wp2_with fail
  refine (H1.out _ HX1.out).mono ?_
  rintro e w2 ⟨v1, rfl, o1, x2⟩
  clear g1n g1i g2n g3n g4n g5n
  clear c0 c1 c2 c3 c4 c5 c6 c7 c8 c9 c10 c11 c12 s0 s1 m0 m1 m2 lw ls lm
  obtain ⟨B1, d1, rfl, -, hcp1, hr1⟩ := o1.is
  have HX2 := Lib.hid (HX1.out.trans x2)
  have HY2 := Lib.hid x2
  have HO1 := Lib.hid o1.is
  clear H1 o1 x2
  by_cases hE : carveE k fx fy p Wd Ht = 0
  rotate_left
  · have hL : carveL k fx fy p Wd Ht = [] := if_neg hE
    rw [hL]
    clear hr1 HO1 hcp1
    generalize carveE k fx fy p Wd Ht = er at *
    generalize ifOk er Wd = z1 at *
    generalize ifOk er Ht = z2 at *
    generalize ifOk er p = z3 at *
    simp only [List.length_nil]
    go_wp2_with fail
    go_ret
    exact ⟨rfl, HX2.out.trans (by (repeat' (first | with_reducible exact Ext.refl _ | with_reducible apply Ext.alloc | with_reducible apply Ext.drew | with_reducible apply Ext.drewN | with_reducible refine Ext.setCell ?_ ?_ _ | with_reducible apply Ext.step | with_reducible assumption | with_reducible exact Nat.le_refl _ | (simp; done) | (simp; omega))))⟩
  obtain ⟨hwb, hab, hlb, heb⟩ := carveE_zero.1 hE
  obtain ⟨⟨p1, p2⟩, ⟨p3, p4⟩, ⟨p5, p6⟩, ⟨p7, p8⟩, p9, p10⟩ := argsB_iff.1 hab
  rw [ifOk_zeroM hE, ifOk_zeroM hE, ifOk_zeroM hE]
  obtain ⟨W', hW'⟩ : ∃ W' : Nat, Wd = (W' : Int) := ⟨Wd.toNat, by omega⟩
  obtain ⟨H', hH'⟩ : ∃ H' : Nat, Ht = (H' : Int) := ⟨Ht.toNat, by omega⟩
  subst hW' hH'
  have hLe : carveL k fx fy p W' H' = carvL k fx fy p W' H' := by
    unfold carveL
    rw [if_pos hE, Int.toNat_natCast, Int.toNat_natCast]
  obtain ⟨L, hL⟩ : ∃ z, z = carvL k fx fy p W' H' := ⟨_, rfl⟩
  rw [hLe, ← hL] at HO1 hr1 hcp1 ⊢
  have hN5 := Nat.mul_le_mul (show W' ≤ 24 by omega) (show H' ≤ 24 by omega)
  obtain ⟨N, hNe⟩ : ∃ N, N = W' * H' := ⟨_, rfl⟩
  rw [← hNe] at hN5
  have hLl : L.length = N := by rw [hL, hNe]; simp [carvL]
  obtain ⟨a, ha⟩ : ∃ a, a = ri * p := ⟨_, rfl⟩
  obtain ⟨b, hb⟩ : ∃ b, b = dn * p := ⟨_, rfl⟩
  obtain ⟨a1, a2⟩ := mul_bdM g2 g3 p5 p6
  obtain ⟨b1, b2⟩ := mul_bdM g4 g5 p5 p6
  rw [← ha] at a1 a2
  rw [← hb] at b1 b2
  have hwa : IntKind.i64.wrap (ri * p) = a := by rw [← ha]; exact IntWalk.i64_in _ (by omega)
  have hwd : IntKind.i64.wrap (dn * p) = b := by rw [← hb]; exact IntWalk.i64_in _ (by omega)
  have HMV := Lib.hid fun (h' : carveE (movK k a b) fx fy p W' H' = 0) (x y u v : Nat) (hx : x < W') (hy : y < H') (hu : u < W') (hv : v < H') (e1 : (u : Int) = (x : Int) + ri) (e2 : (v : Int) = (y : Int) + dn) => (show (carvL (movK k a b) fx fy p W' H')[v * W' + u]? = L[y * W' + x]? from by
    subst ha hb
    rw [hL]
    exact carv_moved hE h' hx hy hu hv e1 e2)
  have HE := Lib.hid hE
  have HWB := Lib.hid hwb
  have HML := Lib.hid fun (q : Nat) (hq : q < k.cuts.length) => mov_line hwb hq
  have HT := Lib.hid fun (W : World) (x : Ext w W) => twinned_any k _ W (HIX.out W x) (by have := (workB_iff.1 hwb).2.2.1; omega) (fun c hc => by
    have := (lineB_iff.1 (cutB_iff.1 ((workB_iff.1 hwb).2.2.2 c hc)).1).2
    omega)
  have HRW := Lib.hid hr1
  have HLL := Lib.hid hLl
  have HLD := Lib.hid hL
  have h16 : n ≤ 16 := by rw [HN.out]; exact (workB_iff.1 hwb).2.2.1
  have HIL := Lib.hid fun (x y : Nat) (hx : x < W') (hy : y < H') => (show y * W' + x < N from by
    have := Nat.mul_le_mul_right W' (show y + 1 ≤ H' by omega)
    rw [Nat.add_mul] at this
    rw [hNe, Nat.mul_comm W' H']
    omega)
  rw [hE]
  rw [hLl] at hcp1 ⊢
  have hW24 : W' ≤ 24 := by omega
  have hH24 : H' ≤ 24 := by omega
  have HAB := Lib.hid (And.intro ha hb)
  clear hwb hab hlb heb hE hLe hL hLl hr1 HO1 ha hb g1 hNe
  have hwk := HWK.out.ext HY2.out
  have c0 := hwk.c0
  have c1 := hwk.c1
  have c2 := hwk.c2
  have c3 := hwk.c3
  have c4 := hwk.c4
  have c5 := hwk.c5
  have c6 := hwk.c6
  have c7 := hwk.c7
  have c8 := hwk.c8
  have c9 := hwk.c9
  have c10 := hwk.c10
  have c11 := hwk.c11
  have c12 := hwk.c12
  have s0 := HY2.out.cell_some HS.out.1
  have s1 := HY2.out.cell_some HS.out.2.1
  have m0 := HY2.out.cell_some HS.out.2.2.1
  have m1 := HY2.out.cell_some HS.out.2.2.2.1
  have m2 := HY2.out.cell_some HS.out.2.2.2.2
  have ls := cell_lt s0
  have lw := cell_lt c0
  have lm := cell_lt m0
  clear hwk
  go_wp2_with fail
  refine lay_calls (fun W => Ext w2 W ∧ BoxAt w2.heap.size #[.int .i64 W', .int .i64 H', .int .i64 p, .slice B1 N d1] 37 W) ⟨by (repeat' (first | with_reducible exact Ext.refl _ | with_reducible apply Ext.alloc | with_reducible apply Ext.drew | with_reducible apply Ext.drewN | with_reducible refine Ext.setCell ?_ ?_ _ | with_reducible apply Ext.step | with_reducible assumption | with_reducible exact Nat.le_refl _ | (simp; done) | (simp; omega))), BoxAt.new _ _ _⟩ ?_
  rintro W3 ⟨x3, hb3⟩
  have HB18 := Lib.hid hb3
  have HX3 := Lib.hid (HX2.out.trans x3)
  have HY3 := Lib.hid (HY2.out.trans x3)
  have hlt18 := hb3.lt
  obtain ⟨b18, hb18⟩ : ∃ z, z = w2.heap.size := ⟨_, rfl⟩
  rw [← hb18] at HB18 hlt18 ⊢
  have HR18 := Lib.hid (show ∀ W, Ext W3 W → Ext w2 W from fun W x => x3.trans x)
  clear c0 c1 c2 c3 c4 c5 c6 c7 c8 c9 c10 c11 c12 s0 s1 m0 m1 m2 lw ls lm
  clear x3 hb3 hb18
  refine (HT.out _ HX3.out).mono ?_
  rintro e W4 ⟨v', Ts, rfl, ht, xt⟩
  obtain ⟨A2, n2, c2, rfl⟩ := own_shapeW ht.own
  have HTW := Lib.hid ht
  have HYT := Lib.hid xt
  have HBT := Lib.hid (BoxAt.new W4 #[.int .i64 0, .int .i64 0, .int .i64 0, .int .i64 0, .int .i64 0, .int .i64 0, .int .i64 0, .int .i64 0, .int .i64 0, .int .i64 0, .int .i64 0, .int .i64 0, .slice none 0 0] 79)
  clear ht xt
  rename_i K2 hK2
  refine hK2 _ _ ?_
  iterate 1 (refine wpList_plain (by rfl) (fun K hK => ?_); go_simp; refine hK _ _ ?_; clear hK K)
  refine wpList_store_row rfl 79 (.tmp 20) (.tmp 75) rfl W4.heap.size _ rfl rfl 79 #[.int .i64 0, .int .i64 0, .int .i64 0, .int .i64 0, .int .i64 0, .int .i64 0, .int .i64 0, .int .i64 0, .int .i64 0, .int .i64 0, .int .i64 0, .int .i64 0, .slice none 0 0] HBT.out (by kernel_rfl) rfl (by simp [Value.oneCell']) ?_
  refine lay_list (fun W => BoxAt W4.heap.size (workCells k (.slice A2 n2 c2)) 79 W ∧ Ext W4 W) ⟨BoxAt.setRow HBT.out _, (setRow_but _ _ _).below ((Ext.refl W4).alloc _) (by simp)⟩ ?_
  rintro W5 ⟨hbt, xt⟩
  obtain ⟨x8, hx8⟩ : ∃ x8, x8 = W4.heap.size := ⟨_, rfl⟩
  rw [← hx8] at hbt ⊢
  have HT4 := Lib.hid (HTW.out.ext xt)
  have HB4 := Lib.hid hbt
  have HY4 := Lib.hid (HYT.out.trans xt)
  have hn2 : n2 = n := by rw [HN.out, ← HTW.out.len]; exact twin_len HTW.out.own rfl
  subst hn2

  have HMS := Lib.hid (show MovM a b k W3 (.slice A2 n2 c2) x8 Ts 0 0 W5 from MovM.start HT4.out HB4.out HY4.out)
  have e12 := hbt.cell (i := 12) rfl
  have le12 := cell_lt e12
  clear hbt xt hx8 HT4 HB4 HTW HYT HBT
  go_wp2_with fail
  clear e12 le12
  go_loopw [79] (fun iv W => ∃ i : Nat, i ≤ n2 ∧ iv = .int .i64 (i : Int) ∧ MovM a b k W3 (.slice A2 n2 c2) x8 Ts i 0 W) (fun iv _ => n2 - (intOf iv).toNat)
  case' atStart => exact ⟨0, by omega, rfl, HMS.out⟩
  case' round =>
    obtain ⟨i, hi, rfl, hst⟩ := hrel
    have HST := Lib.hid hst
    clear hst HMS
    by_cases hlt : i < n2
    · have hik : i < k.cuts.length := by rw [← HN.out]; exact hlt
      have hii : (i : Int) < (n2 : Int) := by omega
      obtain ⟨g, hA2⟩ := HST.out.base hik
      subst hA2
      obtain ⟨gi, ci, hiT, hrow, hrest⟩ := HST.out.row hik (fun _ => (HML.out i hik).1.1)
      obtain ⟨r0, r1, r2⟩ := HST.out.cell hiT
      obtain ⟨N2, hN2⟩ : ∃ N, N = k.cuts[i].1.length := ⟨_, rfl⟩
      rw [← hN2] at hrow
      rw [hrow] at r0
      rw [hrest] at r1 r2
      have hl12 := (HML.out i hik).1.2
      rw [← hN2] at hl12
      have HN2 := Lib.hid hN2
      have HROW := Lib.hid hrow
      have lr0 := cell_lt r0
      obtain ⟨pri, hpri⟩ : ∃ z, z = k.cuts[i].2.1 := ⟨_, rfl⟩
      obtain ⟨cri, hcri⟩ : ∃ z, z = k.cuts[i].2.2 := ⟨_, rfl⟩
      rw [← hpri] at r1
      rw [← hcri] at r2
      obtain ⟨wo, rfl⟩ : ∃ wo, wo = wr := ⟨_, rfl⟩
      clear hrow hrest hN2 hpri hcri
      go_upto_region 11 with fail
      refine lay_wp (fun W => BoxAt wo.heap.size #[.slice (some ⟨gi, 0, none⟩) N2 ci, .int .i64 pri, .bool cri] 106 W ∧ Ext wo W) ⟨BoxAt.new wo _ _, (Ext.refl _).alloc _⟩ ?_
      rintro W6 ⟨hb6, x6⟩
      have HS6 := Lib.hid (HST.out.x x6)
      have d0 := hb6.cell (i := 0) rfl
      have ld0 := cell_lt d0
      clear r0 r1 r2 lr0 hb6 x6
      go_wp2_with fail
      clear d0 ld0
      go_loopw [87] (fun iv W => ∃ t : Nat, t ≤ N2 ∧ iv = .int .i64 (t : Int) ∧ MovM a b k W3 (.slice (some ⟨g, 0, none⟩) n2 c2) x8 Ts i t W) (fun iv _ => N2 - (intOf iv).toNat)
      case atStart => exact ⟨0, by omega, rfl, HS6.out⟩
      case round =>
        obtain ⟨t, ht, rfl, hst⟩ := hrel
        have HSW := Lib.hid hst
        clear hst
        by_cases hlt2 : t < N2
        · have htk : t < k.cuts[i].1.length := by rw [← HN2.out]; exact hlt2
          have hti : (t : Int) < (N2 : Int) := by omega
          obtain ⟨hgv, hx8g, s0, s1, f0, f1, hgw⟩ := HSW.out.at_ hik hiT HROW.out htk
          obtain ⟨r0, -, -⟩ := HSW.out.cell hiT
          rw [HROW.out] at r0
          have h12 := HSW.out.box.cell (i := 12) rfl
          have l12 := cell_lt h12
          have lr0 := cell_lt r0
          have ls0 := cell_lt s0
          obtain ⟨⟨q1, q2⟩, q3, q4⟩ := (HML.out i hik).2 t htk
          have HSP := Lib.hid (show ∀ X Y, X = k.cuts[i].1[t].1 + a → Y = k.cuts[i].1[t].2 + b → (X, Y) = addS a b k.cuts[i].1[t] from fun X Y h1 h2 => by rw [h1, h2]; rfl)
          generalize k.cuts[i].1[t].1 = sx at *
          generalize k.cuts[i].1[t].2 = sy at *
          obtain ⟨X, hX⟩ : ∃ X, X = sx + a := ⟨_, rfl⟩
          obtain ⟨Y, hY⟩ : ∃ Y, Y = sy + b := ⟨_, rfl⟩
          have HXY := Lib.hid (HSP.out X Y hX hY)
          have hw1 : IntKind.i64.wrap (sx + a) = X := by rw [hX]; exact IntWalk.i64_in _ (by omega)
          have hw2 : IntKind.i64.wrap (sy + b) = Y := by rw [hY]; exact IntWalk.i64_in _ (by omega)
          have hne1 : g ≠ gi := fun e => hgv (by simp [Value.ownBlock, e])
          have HNE := Lib.hid (And.intro hne1 hx8g)
          have HF1 := Lib.hid f1
          obtain ⟨wt, rfl⟩ : ∃ wt, wt = wr := ⟨_, rfl⟩
          clear hX hY hgv hx8g hne1 HSP f1 q1 q2 q3 q4
          go_upto_region 15 with fail
          refine lay_wp (fun W => Ext (wt.setCell ⟨gi, t * 2, none⟩ (.int .i64 X)) W ∧ W.cell? ⟨gi, t * 2 + 1, none⟩ = some (.int .i64 sy) ∧ W.frozen? ⟨gi, t * 2 + 1, none⟩ = false ∧ W.cell? ⟨g, i * 3, none⟩ = some (.slice (some ⟨gi, 0, none⟩) N2 ci) ∧ W.cell? ⟨x8, 12, none⟩ = some (.slice (some ⟨g, 0, none⟩) n2 c2)) ⟨Ext.refl _, (cell_set_other (.inr (by simp))).trans s1, by simp [HF1.out], (cell_set_other (.inl (by simpa using HNE.out.1))).trans r0, (cell_set_other (.inl (by simpa using HNE.out.2))).trans h12⟩ ?_
          clear s0 s1 f0 HF1 r0 h12 l12 lr0 ls0
          rintro W9 ⟨x9, s1, f1, r0, h12⟩
          have HX9 := Lib.hid x9
          have l12 := cell_lt h12
          have lr0 := cell_lt r0
          have ls1 := cell_lt s1
          clear x9
          go_wp2_with fail
          go_roundw
          case rel => exact ⟨t + 1, by omega, by go_num, HSW.out.two hiT hik HROW.out htk HXY.out (Ext.refl _) HX9.out⟩
          case measure => simp [intOf]; omega
        · obtain rfl : t = N2 := by omega
          have HSN := Lib.hid (HSW.out.next (fun h' => by rw [HN2.out]; exact Nat.le_refl _))
          go_wp2_with fail
          go_roundw
          case rel => exact ⟨i + 1, by omega, by go_num, HSN.out⟩
          case measure => simp [intOf]; omega
    obtain rfl : i = n2 := by omega
  obtain ⟨wf, rfl⟩ : ∃ wf, wf = wr := ⟨_, rfl⟩
  have HCI := Lib.hid (show CutsIs wf (.slice A2 i c2) (movK k a b).cuts from HST.out.endI HN.out)
  obtain ⟨E2, hE2⟩ : ∃ z, z = carveE (movK k a b) fx fy p W' H' := ⟨_, rfl⟩
  obtain ⟨L2, hL2⟩ : ∃ z, z = carveL (movK k a b) fx fy p W' H' := ⟨_, rfl⟩
  have H2 := Lib.hid fun (W : World) (x : Ext wf W) => (show Calls Try.prog 47 #[k.val (.slice A2 i c2), V2 fx fy, .int .i64 p, .int .i64 W', .int .i64 H'] W (CarvRet W (ifOk E2 W') (ifOk E2 H') (ifOk E2 p) E2 L2) from by
    subst hE2 hL2
    exact Carve_any (movK k a b) (.slice A2 i c2) fx fy p W' H' W (HCI.out.ext x))
  have HE2 := Lib.hid hE2
  have HL2 := Lib.hid hL2
  have HYF := Lib.hid (HY3.out.trans HST.out.ext)
  clear hE2 hL2
  obtain ⟨c0, c1, c2, c3, c4, c5, c6, c7, c8, c9, c10, c11, c12⟩ := WkAt.box (k := k) HST.out.box
  have s0 := HYF.out.cell_some HS.out.1
  have s1 := HYF.out.cell_some HS.out.2.1
  have ls := cell_lt s0
  have lw := cell_lt c0
  go_wp2_with fail
  refine (H2.out _ (Ext.refl _)).mono ?_
  rintro e w5 ⟨v2, rfl, o2, x5⟩
  obtain ⟨B2, d2, rfl, -, hcp2, hr2⟩ := o2.is
  have HR2 := Lib.hid hr2
  have HX5 := Lib.hid (HX3.out.trans (HST.out.ext.trans x5))
  have HY5 := Lib.hid (HYF.out.trans x5)
  have HZ5 := Lib.hid (HST.out.ext.trans x5)
  generalize ifOk E2 (W' : Int) = z1 at *
  generalize ifOk E2 (H' : Int) = z2 at *
  generalize ifOk E2 p = z3 at *
  have hw53 : W3.heap.size ≤ w5.heap.size := HZ5.out.bel.size
  obtain ⟨b24, hb24⟩ : ∃ z, z = w5.heap.size := ⟨_, rfl⟩
  have HBE := Lib.hid hb24
  clear hb24
  clear hr2 o2 x5 H2
  clear c0 c1 c2 c3 c4 c5 c6 c7 c8 c9 c10 c11 c12 s0 s1 lw ls
  by_cases h0 : E2 = 0
  case' neg =>
    have hwk := HWK.out.ext HY5.out
    have c0 := hwk.c0
    have c1 := hwk.c1
    have c2 := hwk.c2
    have c3 := hwk.c3
    have c4 := hwk.c4
    have c5 := hwk.c5
    have c6 := hwk.c6
    have c7 := hwk.c7
    have c8 := hwk.c8
    have c9 := hwk.c9
    have c10 := hwk.c10
    have c11 := hwk.c11
    have c12 := hwk.c12
    have lw := cell_lt c0
    clear hwk
    go_wp2_with fail
    refine lay_calls (fun W => Ext w5 W ∧ BoxAt b24 #[.int .i64 z1, .int .i64 z2, .int .i64 z3, .slice B2 L2.length d2] 37 W) ⟨by (repeat' (first | with_reducible exact Ext.refl _ | with_reducible apply Ext.alloc | with_reducible apply Ext.drew | with_reducible apply Ext.drewN | with_reducible refine Ext.setCell ?_ ?_ _ | with_reducible apply Ext.step | with_reducible assumption | with_reducible exact Nat.le_refl _ | (simp; done) | (simp; omega))), by rw [HBE.out]; exact BoxAt.new _ _ _⟩ ?_
    rw [← HBE.out]
    clear c0 c1 c2 c3 c4 c5 c6 c7 c8 c9 c10 c11 c12 lw
  case' pos =>
    subst h0
    have hE20 : carveE (movK k a b) fx fy p W' H' = 0 := HE2.out.symm
    have hL2e : L2 = carvL (movK k a b) fx fy p W' H' := by
      rw [HL2.out]
      unfold carveL
      rw [if_pos hE20, Int.toNat_natCast, Int.toNat_natCast]
    have hL2l : L2.length = N := by
      rw [hL2e, ← HLL.out, HLD.out]
      simp [carvL]
    have HL2N := Lib.hid hL2l
    have HVV := Lib.hid fun (x y u v : Nat) (hx : x < W') (hy : y < H') (hu : u < W') (hv : v < H') (e1 : (u : Int) = (x : Int) + ri) (e2 : (v : Int) = (y : Int) + dn) => (show L2[v * W' + u]? = L[y * W' + x]? from by
      rw [hL2e]
      exact HMV.out hE20 x y u v hx hy hu hv e1 e2)
    rw [hL2l] at hcp2 ⊢
    clear hE20 hL2e hL2l
    go_wp2_with fail
    refine lay_wp (fun W => Ext w5 W ∧ BoxAt b24 #[.int .i64 z1, .int .i64 z2, .int .i64 z3, .slice B2 N d2] 37 W) ⟨by (repeat' (first | with_reducible exact Ext.refl _ | with_reducible apply Ext.alloc | with_reducible apply Ext.drew | with_reducible apply Ext.drewN | with_reducible refine Ext.setCell ?_ ?_ _ | with_reducible apply Ext.step | with_reducible assumption | with_reducible exact Nat.le_refl _ | (simp; done) | (simp; omega))), by rw [HBE.out]; exact BoxAt.new _ _ _⟩ ?_
    rintro W6 ⟨x6, hb6⟩
    rw [← HBE.out]
    have HX6 := Lib.hid x6
    have HB6 := Lib.hid hb6
    clear x6 hb6
    go_loopw [136] (fun iv W => ∃ y : Nat, y ≤ H' ∧ iv = .int .i64 (y : Int) ∧ Ext W6 W) (fun iv _ => H' - (intOf iv).toNat)
    case' atStart => exact ⟨0, by omega, rfl, Ext.refl _⟩
    case' round =>
      obtain ⟨y, hy, rfl, hx⟩ := hrel
      have HXY := Lib.hid hx
      clear hx
      by_cases hlt : y < H'
      · have hyi : (y : Int) < (H' : Int) := by omega
        go_wp2_with fail
        go_loopw [140] (fun iv W => ∃ x : Nat, x ≤ W' ∧ iv = .int .i64 (x : Int) ∧ Ext W6 W) (fun iv _ => W' - (intOf iv).toNat)
        case atStart => exact ⟨0, by omega, rfl, HXY.out⟩
        case round =>
          obtain ⟨x, hx, rfl, hxx⟩ := hrel
          have HXX := Lib.hid hxx
          by_cases hlt2 : x < W'
          · have hxi : (x : Int) < (W' : Int) := by omega
            have k24 := (HB6.out.ext hxx).cell (i := 3) rfl
            have k18 := (HB18.out.ext (HZ5.out.trans (HX6.out.trans hxx))).cell (i := 3) rfl
            have l24 := cell_lt k24
            have l18 := cell_lt k18
            obtain ⟨X, hX⟩ : ∃ X, X = (x : Int) + ri := ⟨_, rfl⟩
            obtain ⟨Y, hY⟩ : ∃ Y, Y = (y : Int) + dn := ⟨_, rfl⟩
            have hwx : IntKind.i64.wrap ((x : Int) + ri) = X := by rw [hX]; exact IntWalk.i64_in _ (by omega)
            have hwy : IntKind.i64.wrap ((y : Int) + dn) = Y := by rw [hY]; exact IntWalk.i64_in _ (by omega)
            have HXE := Lib.hid (And.intro hX hY)
            by_cases hin : (0 ≤ X ∧ 0 ≤ Y) ∧ X < (W' : Int) ∧ Y < (H' : Int)
            · obtain ⟨⟨i1, i2⟩, i3, i4⟩ := hin
              have hu : X.toNat < W' := by omega
              have hv : Y.toNat < H' := by omega
              have hvv := HVV.out x y X.toNat Y.toNat hlt2 hlt hu hv (by omega) (by omega)
              have hn1 := HIL.out X.toNat Y.toNat hu hv
              have hn2 := HIL.out x y hlt2 hlt
              obtain ⟨iN, hiN⟩ : ∃ z, z = Y.toNat * W' + X.toNat := ⟨_, rfl⟩
              obtain ⟨jN, hjN⟩ : ∃ z, z = y * W' + x := ⟨_, rfl⟩
              rw [← hiN] at hn1 hvv
              rw [← hjN] at hn2 hvv
              have hl1 : iN < L2.length := by rw [HL2N.out]; exact hn1
              have hl2 : jN < L.length := by rw [HLL.out]; exact hn2
              rw [List.getElem?_eq_getElem hl1, List.getElem?_eq_getElem hl2, Option.some.injEq] at hvv
              obtain ⟨bb, qq, rfl, hbb, hqq⟩ := HR2.out iN hl1
              have e2 := (HX6.out.trans hxx).cell_some (hqq 0 _ rfl)
              simp only [intK, Nat.mul_one, Nat.add_zero, hvv] at e2
              obtain ⟨bc, qc, rfl, hbc, hqc⟩ := HRW.out jN hl2
              have e1 := (HR18.out _ (HZ5.out.trans (HX6.out.trans hxx))).cell_some (hqc 0 _ rfl)
              simp only [intK, Nat.mul_one, Nat.add_zero] at e1
              generalize L[jN] = zz at *
              have le1 := cell_lt e1
              have le2 := cell_lt e2
              obtain ⟨P1, hP1⟩ : ∃ z, z = Y * (W' : Int) := ⟨_, rfl⟩
              obtain ⟨P2, hP2⟩ : ∃ z, z = (y : Int) * (W' : Int) := ⟨_, rfl⟩
              have hP1' : P1 + X = (iN : Int) := by
                rw [hP1, hiN, Int.natCast_add, Int.natCast_mul]
                have : ((Y.toNat : Nat) : Int) = Y := by omega
                have : ((X.toNat : Nat) : Int) = X := by omega
                simp_all
              have hP2' : P2 + (x : Int) = (jN : Int) := by
                rw [hP2, hjN, Int.natCast_add, Int.natCast_mul]
              have w1 : IntKind.i64.wrap (Y * (W' : Int)) = P1 := by rw [← hP1]; exact IntWalk.i64_in _ (by omega)
              have w2' : IntKind.i64.wrap (P1 + X) = (iN : Int) := by rw [hP1']; exact IntWalk.i64_in _ (by omega)
              have w3 : IntKind.i64.wrap ((y : Int) * (W' : Int)) = P2 := by rw [← hP2]; exact IntWalk.i64_in _ (by omega)
              have w4 : IntKind.i64.wrap (P2 + (x : Int)) = (jN : Int) := by rw [hP2']; exact IntWalk.i64_in _ (by omega)
              have t1 : decide ((0 : Int) ≤ X) = true := decide_eq_true i1
              have t2 : decide ((0 : Int) ≤ Y) = true := decide_eq_true i2
              have t3 : decide (X < (W' : Int)) = true := decide_eq_true i3
              have t4 : decide (Y < (H' : Int)) = true := decide_eq_true i4
              have iNi : (iN : Int) < (N : Int) := by omega
              have jNi : (jN : Int) < (N : Int) := by omega
              clear hxx hX hY hvv hqq hqc hbb hbc hP1 hP2 hP1' hP2' hiN hjN hu hv hl1 hl2
              go_wp2_with fail
              refine wp_region_bext (by kernel_rfl) (by kernel_rfl) ?_
              repeat (any_goals (go_big_quiet_step (fail)))
              all_goals refine wpQuiet_nil ?_
              all_goals rintro _ ⟨δ, rfl⟩
              go_wp2_with fail
              go_roundw
              case rel => exact ⟨x + 1, by omega, by go_num, HXX.out.trans ⟨δ, rfl⟩⟩
              case measure => simp [intOf]; omega
            · rcases (by omega : ¬ 0 ≤ X ∨ (0 ≤ X ∧ ¬ 0 ≤ Y) ∨ (0 ≤ X ∧ 0 ≤ Y ∧ ¬ X < (W' : Int)) ∨ (0 ≤ X ∧ 0 ≤ Y ∧ X < (W' : Int) ∧ ¬ Y < (H' : Int))) with i1 | ⟨i1, i2⟩ | ⟨i1, i2, i3⟩ | ⟨i1, i2, i3, i4⟩
              · have t1 : decide ((0 : Int) ≤ X) = false := decide_eq_false i1
                clear hxx hX hY hin
                go_wp2_with fail
                refine wp_region_bext (by kernel_rfl) (by kernel_rfl) ?_
                repeat (any_goals (go_big_quiet_step (fail)))
                all_goals refine wpQuiet_nil ?_
                all_goals rintro _ ⟨δ, rfl⟩
                go_wp2_with fail
                go_roundw
                case rel => exact ⟨x + 1, by omega, by go_num, HXX.out.trans ⟨δ, rfl⟩⟩
                case measure => simp [intOf]; omega
              · have t1 : decide ((0 : Int) ≤ X) = true := decide_eq_true i1
                have t2 : decide ((0 : Int) ≤ Y) = false := decide_eq_false i2
                clear hxx hX hY hin
                go_wp2_with fail
                refine wp_region_bext (by kernel_rfl) (by kernel_rfl) ?_
                repeat (any_goals (go_big_quiet_step (fail)))
                all_goals refine wpQuiet_nil ?_
                all_goals rintro _ ⟨δ, rfl⟩
                go_wp2_with fail
                go_roundw
                case rel => exact ⟨x + 1, by omega, by go_num, HXX.out.trans ⟨δ, rfl⟩⟩
                case measure => simp [intOf]; omega
              · have t1 : decide ((0 : Int) ≤ X) = true := decide_eq_true i1
                have t2 : decide ((0 : Int) ≤ Y) = true := decide_eq_true i2
                have t3 : decide (X < (W' : Int)) = false := decide_eq_false i3
                clear hxx hX hY hin
                go_wp2_with fail
                refine wp_region_bext (by kernel_rfl) (by kernel_rfl) ?_
                repeat (any_goals (go_big_quiet_step (fail)))
                all_goals refine wpQuiet_nil ?_
                all_goals rintro _ ⟨δ, rfl⟩
                go_wp2_with fail
                go_roundw
                case rel => exact ⟨x + 1, by omega, by go_num, HXX.out.trans ⟨δ, rfl⟩⟩
                case measure => simp [intOf]; omega
              · have t1 : decide ((0 : Int) ≤ X) = true := decide_eq_true i1
                have t2 : decide ((0 : Int) ≤ Y) = true := decide_eq_true i2
                have t3 : decide (X < (W' : Int)) = true := decide_eq_true i3
                have t4 : decide (Y < (H' : Int)) = false := decide_eq_false i4
                clear hxx hX hY hin
                go_wp2_with fail
                refine wp_region_bext (by kernel_rfl) (by kernel_rfl) ?_
                repeat (any_goals (go_big_quiet_step (fail)))
                all_goals refine wpQuiet_nil ?_
                all_goals rintro _ ⟨δ, rfl⟩
                go_wp2_with fail
                go_roundw
                case rel => exact ⟨x + 1, by omega, by go_num, HXX.out.trans ⟨δ, rfl⟩⟩
                case measure => simp [intOf]; omega
          · obtain rfl : x = W' := by omega
            go_wp2_with fail
            go_roundw
            case rel => exact ⟨y + 1, by omega, by go_num, HXX.out⟩
            case measure => simp [intOf]; omega
      obtain rfl : H' = y := by omega
      have hwk := HWK.out.ext (HY5.out.trans (HX6.out.trans HXY.out))
      have c0 := hwk.c0
      have c1 := hwk.c1
      have c2 := hwk.c2
      have c3 := hwk.c3
      have c4 := hwk.c4
      have c5 := hwk.c5
      have c6 := hwk.c6
      have c7 := hwk.c7
      have c8 := hwk.c8
      have c9 := hwk.c9
      have c10 := hwk.c10
      have c11 := hwk.c11
      have c12 := hwk.c12
      have lw := cell_lt c0
      clear hwk
      go_wp2_with fail
      refine lay_calls (fun W => Ext w5 W ∧ BoxAt b24 #[.int .i64 z1, .int .i64 z2, .int .i64 z3, .slice B2 L2.length d2] 37 W) ⟨HX6.out.trans HXY.out, by rw [HL2N.out]; exact HB6.out.ext HXY.out⟩ ?_
      clear c0 c1 c2 c3 c4 c5 c6 c7 c8 c9 c10 c11 c12 lw
  all_goals
    rintro W7 ⟨x7, hb7⟩
    have HX7 := Lib.hid (HX5.out.trans x7)
    have HY7 := Lib.hid (HY5.out.trans x7)
    have HZ7 := Lib.hid (HZ5.out.trans x7)
    have HB24 := Lib.hid hb7
    have hb24lt := hb7.lt
    have hb24ge : W3.heap.size ≤ b24 := by rw [HBE.out]; exact HZ5.out.bel.size
    clear x7 hb7
    refine (HT.out _ HX7.out).mono ?_
    rintro e W8 ⟨v', Ts, rfl, ht, xt⟩
    obtain ⟨A2, n2, c2, rfl⟩ := own_shapeW ht.own
    have HTW := Lib.hid ht
    have HYT := Lib.hid xt
    have HBT := Lib.hid (BoxAt.new W8 #[.int .i64 0, .int .i64 0, .int .i64 0, .int .i64 0, .int .i64 0, .int .i64 0, .int .i64 0, .int .i64 0, .int .i64 0, .int .i64 0, .int .i64 0, .int .i64 0, .slice none 0 0] 79)
    clear ht xt
    rename_i K2 hK2
    refine hK2 _ _ ?_
    iterate 1 (refine wpList_plain (by rfl) (fun K hK => ?_); go_simp; refine hK _ _ ?_; clear hK K)
    refine wpList_store_row rfl 79 (.tmp 30) (.tmp 189) rfl W8.heap.size _ rfl rfl 79 #[.int .i64 0, .int .i64 0, .int .i64 0, .int .i64 0, .int .i64 0, .int .i64 0, .int .i64 0, .int .i64 0, .int .i64 0, .int .i64 0, .int .i64 0, .int .i64 0, .slice none 0 0] HBT.out (by kernel_rfl) rfl (by simp [Value.oneCell']) ?_
    refine lay_list (fun W => BoxAt W8.heap.size (workCells k (.slice A2 n2 c2)) 79 W ∧ Ext W8 W) ⟨BoxAt.setRow HBT.out _, (setRow_but _ _ _).below ((Ext.refl W8).alloc _) (by simp)⟩ ?_
    rintro W9 ⟨hbt, xt⟩
    obtain ⟨x8, hx8⟩ : ∃ x8, x8 = W8.heap.size := ⟨_, rfl⟩
    rw [← hx8] at hbt ⊢
    have HT4 := Lib.hid (HTW.out.ext xt)
    have HB4 := Lib.hid hbt
    have HY4 := Lib.hid (HYT.out.trans xt)
    have hn2 : n2 = i := by rw [HN.out, ← HTW.out.len]; exact twin_len HTW.out.own rfl
    subst hn2

    have hx8ge : W7.heap.size ≤ x8 := by rw [hx8]; exact HYT.out.bel.size
    have hs9 := HY4.out.bel.size
    have e12 := hbt.cell (i := 12) rfl
    have f12 := frozen_of_row W9 x8 12 _ _ hbt
    have le12 := cell_lt e12
    have xm := HY7.out.trans HY4.out
    have m0 := xm.cell_some HS.out.2.2.1
    have m1 := xm.cell_some HS.out.2.2.2.1
    have m2 := xm.cell_some HS.out.2.2.2.2
    have lm := cell_lt m0
    have HLT := Lib.hid (show Ts.length ≤ 1000000000 by rw [HTW.out.len, ← HN.out]; omega)
    clear hbt xt hx8 HTW HYT HBT xm
    go_upto_region 33 with (at_builtin; refine EK.app (K := cutK) (B := W7.heap.size) (xs := Ts) rfl (.tmp 191) (.tmp 193) rfl W9.heap.size 1 ((A', m', c'), pr, cr) rfl rfl (fun i u hu => cell_new hu) (HT4.out.own.ext ((Ext.refl _).alloc _)) (by simp; omega) HLT.out ?_; intro v' w3 o3 b3 g3; have HO3 := Lib.hid o3; have HG3 := Lib.hid g3; have HX3' := Lib.hid (Ext.below (HY4.out.alloc _) b3 (Nat.le_refl _)); have HB3 := Lib.hid (box_otherM (HB4.out.ext ((Ext.refl _).alloc _)) (HT4.out.own.ext ((Ext.refl _).alloc _)) (by decide) g3); obtain ⟨Av, kv, cv, rfl⟩ := own_shapeW o3; have hz12 := HB3.out.cell (i := 12) rfl; have hf12 := frozen_of_row w3 x8 12 _ _ HB3.out; have lz := cell_lt hz12; clear o3 b3 g3)
    refine lay_wp (fun W => Ext W7 W ∧ BoxAt x8 (workCells k (.slice Av kv cv)) 79 W ∧ CutsIs W (.slice Av kv cv) (k.cuts ++ [(zs, pr, cr)])) ⟨HX3'.out.setCell hx8ge _, HB3.out.setCell 12 _, cuts_more HT4.out ((A', m', c'), pr, cr) zs (HJX.out _ (HX7.out.trans (HX3'.out.setCell hx8ge _))) (HO3.out.oth (.inr (HO3.out.box_ne HB3.out (by decide)))) (fun q ha hb => by
      have al : Ext W9 (W9.alloc (.cells #[.slice A' m' c', .int .i64 pr, .bool cr] 106)) := (Ext.refl W9).alloc _
      have h1 := ((HT4.out.done q ha hb hb).ext al).kept HG3.out (own_ne ((HT4.out.done q ha hb hb).ext al) (HT4.out.own.ext al) spot_cut_ne)
      exact (h1.oth (.inr (h1.box_ne HB3.out (by decide)))).is)⟩ ?_
    clear e12 f12 le12 m0 m1 m2 lm hz12 hf12 lz
    rintro W10 ⟨x10, hb10, hc10⟩
    have HX10 := Lib.hid x10
    have HC10 := Lib.hid hc10
    have HB10 := Lib.hid hb10
    obtain ⟨E4, hE4⟩ : ∃ z, z = carveE (withC k (k.cuts ++ [(zs, pr, cr)])) fx fy p W' H' := ⟨_, rfl⟩
    obtain ⟨L4, hL4⟩ : ∃ z, z = carveL (withC k (k.cuts ++ [(zs, pr, cr)])) fx fy p W' H' := ⟨_, rfl⟩
    have H4 := Lib.hid (show Calls Try.prog 47 #[k.val (.slice Av kv cv), V2 fx fy, .int .i64 p, .int .i64 W', .int .i64 H'] W10 (CarvRet W10 (ifOk E4 W') (ifOk E4 H') (ifOk E4 p) E4 L4) from by
      subst hE4 hL4
      exact Carve_any (withC k (k.cuts ++ [(zs, pr, cr)])) (.slice Av kv cv) fx fy p W' H' W10 HC10.out)
    have HE4 := Lib.hid hE4
    have HL4 := Lib.hid hL4
    clear hE4 hL4 x10 hc10
    obtain ⟨c0, c1, c2, c3, c4, c5, c6, c7, c8, c9, c10, c11, c12⟩ := WkAt.box (k := k) hb10
    have s0 := (HY7.out.trans HX10.out).cell_some HS.out.1
    have s1 := (HY7.out.trans HX10.out).cell_some HS.out.2.1
    have ls := cell_lt s0
    have lw := cell_lt c0
    clear hb10
    go_wp2_with fail
    refine H4.out.mono ?_
    rintro e W11 ⟨v4, rfl, o4, x11⟩
    obtain ⟨B4, d4, rfl, -, hcp4, -⟩ := o4.is
    have HO4 := Lib.hid o4
    have HX11 := Lib.hid (HX10.out.trans x11)
    have HB11 := Lib.hid (HB24.out.ext (HX10.out.trans x11))
    generalize ifOk E4 (W' : Int) = y1 at *
    generalize ifOk E4 (H' : Int) = y2 at *
    generalize ifOk E4 p = y3 at *
    clear c0 c1 c2 c3 c4 c5 c6 c7 c8 c9 c10 c11 c12 s0 s1 lw ls
    clear o4 x11 H4
    rename_i K3 hK3
    refine hK3 _ _ ?_
    iterate 3 (refine wpList_plain (by rfl) (fun K hK => ?_); go_simp; refine hK _ _ ?_; clear hK K)
    refine wpList_store_row rfl 37 (.tmp 24) (.tmp 203) rfl b24 _ rfl rfl 37 #[.int .i64 z1, .int .i64 z2, .int .i64 z3, .slice B2 L2.length d2] HB11.out (by kernel_rfl) rfl (by simp [Value.oneCell']) ?_
    refine lay_list (fun W => BoxAt b24 #[.int .i64 y1, .int .i64 y2, .int .i64 y3, .slice B4 L4.length d4] 37 W ∧ Ext W3 W ∧ intK.Is W (.slice B4 L4.length d4) L4) ⟨BoxAt.setRow HB11.out _, (setRow_but _ _ _).below (HZ7.out.trans HX11.out) (by simp; omega), (HO4.out.kept (but_grown' (setRow_but _ _ _)) (.inr (HO4.out.box_ne HB11.out (by decide)))).is⟩ ?_
    rintro W12 ⟨hb12, x12, hi12⟩
    have HB12 := Lib.hid hb12
    have HX12 := Lib.hid x12
    have HI12 := Lib.hid hi12
    clear hb12 x12 hi12
    by_cases h4 : E4 = 0
    rotate_left
    · go_wp2_with fail
      go_ret
      exact ⟨rfl, HX3.out.trans HX12.out⟩
    subst h4
    have hE40 : carveE (withC k (k.cuts ++ [(zs, pr, cr)])) fx fy p W' H' = 0 := HE4.out.symm
    have hL4e : L4 = carvL (withC k (k.cuts ++ [(zs, pr, cr)])) fx fy p W' H' := by
      rw [HL4.out]
      unfold carveL
      rw [if_pos hE40, Int.toNat_natCast, Int.toNat_natCast]
    have hL4l : L4.length = N := by
      rw [hL4e, ← HLL.out, HLD.out]
      simp [carvL]
    have HLE4 := Lib.hid fun (q : Nat) (h1 : q < L4.length) (h2 : q < L.length) => (show L4[q] ≤ L[q] from by
      have e1 : L4[q] = carvC (withC k (k.cuts ++ [(zs, pr, cr)])) (pointC fx fy p W' q) := by subst hL4e; simp [carvL]
      have e2 : L[q] = carvC k (pointC fx fy p W' q) := by
        have := HLD.out
        subst this
        simp [carvL]
      rw [e1, e2]
      exact carv_more)
    have HL4N := Lib.hid hL4l
    obtain ⟨_, _, he4, -, -, hr4⟩ := HI12.out
    cases he4
    have HR4 := Lib.hid hr4
    rw [hL4l] at hcp4 HB12
    clear hE40 hL4e hL4l hr4
    have k18 := (HB18.out.ext HX12.out).cell (i := 3) rfl
    have l18 := cell_lt k18
    go_wp2_with fail
    clear k18 l18
    go_loopw [211] (fun iv W => ∃ q : Nat, q ≤ N ∧ iv = .int .i64 (q : Int) ∧ Ext W12 W) (fun iv _ => N - (intOf iv).toNat)
    case' atStart => exact ⟨0, by omega, rfl, Ext.refl _⟩
    case' round =>
      obtain ⟨q, hq, rfl, hxx⟩ := hrel
      have HXX := Lib.hid hxx
      by_cases hlt : q < N
      · have hqi : (q : Int) < (N : Int) := by omega
        have hl1 : q < L4.length := by rw [HL4N.out]; exact hlt
        have hl2 : q < L.length := by rw [HLL.out]; exact hlt
        have hle := HLE4.out q hl1 hl2
        have k24 := (HB12.out.ext hxx).cell (i := 3) rfl
        have k18 := (HB18.out.ext (HX12.out.trans hxx)).cell (i := 3) rfl
        have l24 := cell_lt k24
        have l18 := cell_lt k18
        obtain ⟨bb, qq, rfl, hbb, hqq⟩ := HR4.out q hl1
        have e2 := hxx.cell_some (hqq 0 _ rfl)
        simp only [intK, Nat.mul_one, Nat.add_zero] at e2
        obtain ⟨bc, qc, rfl, hbc, hqc⟩ := HRW.out q hl2
        have e1 := (HR18.out _ (HX12.out.trans hxx)).cell_some (hqc 0 _ rfl)
        simp only [intK, Nat.mul_one, Nat.add_zero] at e1
        generalize L4[q] = ya at *
        generalize L[q] = yb at *
        have le1 := cell_lt e1
        have le2 := cell_lt e2
        have hnl : decide (yb < ya) = false := decide_eq_false (by omega)
        clear hxx hqq hqc hbb hbc hl1 hl2 hle
        go_wp2_with fail
        refine wp_region_bext (by kernel_rfl) (by kernel_rfl) ?_
        repeat (any_goals (go_big_quiet_step (fail)))
        all_goals refine wpQuiet_nil ?_
        all_goals rintro _ ⟨δ, rfl⟩
        go_wp2_with fail
        go_roundw
        case rel => exact ⟨q + 1, by omega, by go_num, HXX.out.trans ⟨δ, rfl⟩⟩
        case measure => simp [intOf]; omega
      · obtain rfl : q = N := by omega
        go_wp2_with fail
        go_ret
        exact ⟨rfl, HX3.out.trans (HX12.out.trans hxx)⟩
end Go.Proofs.Ytlljhimaopnbfaa
