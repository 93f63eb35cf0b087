/- The reference's Carve. Condition: the cuts read as a list. -/
import Derived.Test.YtlljhimaopnbfaaLRCar
import Derived.Test.YtlljhimaopnbfaaLCarv
namespace Go.Proofs.Ytlljhimaopnbfaa
open Go.RowKit

theorem within6_any (n lo hi : Int) (w : World) :
    Calls Try.prog 67 #[.int .i64 n, .int .i64 lo, .int .i64 hi] w fun e w' => e = .returned (.bool (inB lo hi n)) ∧ w = w' := by
  by_cases h1 : lo ≤ n <;> by_cases h2 : n ≤ hi
  all_goals
    go_enter Try.func67, Try.ntmps67
    go_wp2
    go_ret
    exact ⟨ret_b (by simp [inB, h1, h2]), rfl⟩
/-- A work in a box, all its cells. -/
structure WkD (k : WkT) (sv : Value) (b : Nat) (W : World) : Prop where
  c0 : W.cell? ⟨b, 0, none⟩ = some (.int .i64 k.tip)
  c1 : W.cell? ⟨b, 1, none⟩ = some (.int .i64 k.num)
  c2 : W.cell? ⟨b, 2, none⟩ = some (.int .i64 k.den)
  c3 : W.cell? ⟨b, 3, none⟩ = some (.int .i64 k.bite)
  c4 : W.cell? ⟨b, 4, none⟩ = some (.int .i64 k.slack)
  c5 : W.cell? ⟨b, 5, none⟩ = some (.int .i64 k.wall)
  c6 : W.cell? ⟨b, 6, none⟩ = some (.int .i64 k.deepest)
  c7 : W.cell? ⟨b, 7, none⟩ = some (.int .i64 k.play)
  c8 : W.cell? ⟨b, 8, none⟩ = some (.int .i64 k.fx)
  c9 : W.cell? ⟨b, 9, none⟩ = some (.int .i64 k.fy)
  c10 : W.cell? ⟨b, 10, none⟩ = some (.int .i64 k.fh)
  c11 : W.cell? ⟨b, 11, none⟩ = some (.int .i64 k.fd)
  c12 : W.cell? ⟨b, 12, none⟩ = some sv
theorem WkD.ext {k : WkT} {sv : Value} {b : Nat} {W W' : World} (h : WkD k sv b W) (x : Ext W W') : WkD k sv b W' :=
  ⟨x.cell_some h.c0, x.cell_some h.c1, x.cell_some h.c2, x.cell_some h.c3, x.cell_some h.c4, x.cell_some h.c5, x.cell_some h.c6, x.cell_some h.c7, x.cell_some h.c8, x.cell_some h.c9, x.cell_some h.c10, x.cell_some h.c11, x.cell_some h.c12⟩
theorem WkD.new (k : WkT) (sv : Value) (w : World) : WkD k sv w.heap.size (w.alloc (.cells #[.int .i64 k.tip, .int .i64 k.num, .int .i64 k.den, .int .i64 k.bite, .int .i64 k.slack, .int .i64 k.wall, .int .i64 k.deepest, .int .i64 k.play, .int .i64 k.fx, .int .i64 k.fy, .int .i64 k.fh, .int .i64 k.fd, sv] 79)) :=
  ⟨cell_new rfl, cell_new rfl, cell_new rfl, cell_new rfl, cell_new rfl, cell_new rfl, cell_new rfl, cell_new rfl, cell_new rfl, cell_new rfl, cell_new rfl, cell_new rfl, cell_new rfl⟩
theorem ArBox.grown {W W' : World} {b : Nat} {c0 c1 c2 c3 : Value} {row : Option Nat} (h : ArBox W b c0 c1 c2 c3) (g : W.grownBy W' row) (hne : ∀ r, row = some r → b ≠ r) : ArBox W' b c0 c1 c2 c3 :=
  h.but (D := row.toList) ((But.refl _ _).grown g (fun r e => .inl (by simp [e]))) (by
    cases row with
    | none => simp
    | some r => simpa using hne r rfl)
theorem ArBox.put3 {W : World} {b : Nat} {c0 c1 c2 c3 : Value} (h : ArBox W b c0 c1 c2 c3) (u : Value) : ArBox (W.setCell ⟨b, 3, none⟩ u) b c0 c1 c2 u :=
  ⟨(cell_set_other (.inr (by decide))).trans h.c0, (cell_set_other (.inr (by decide))).trans h.c1, (cell_set_other (.inr (by decide))).trans h.c2, cell_set_same h.c3, (World.frozen?_setCell ..).trans h.f0, (World.frozen?_setCell ..).trans h.f1, (World.frozen?_setCell ..).trans h.f2, (World.frozen?_setCell ..).trans h.f3⟩
theorem line_one (fx fy : Int) : lineB [(fx, fy)] = (inB (-10000) 10000 fx && inB (-10000) 10000 fy) := by
  rw [show lineB [(fx, fy)] = (([(fx, fy)].all spotOk) && inB 1 12 1) from rfl]
  simp [spotOk, show inB 1 12 1 = true from by decide]
theorem cell_in2R {n m x y : Nat} (hx : x < n) (hy : y < m) : y * n + x < m * n := by
  have : (y + 1) * n ≤ m * n := Nat.mul_le_mul_right _ hy
  rw [Nat.succ_mul] at this
  omega
theorem point_at {fx fy p : Int} {W x y : Nat} (h : x < W) : pointC fx fy p W (y * W + x) = (fx + (x : Int) * p, fy + (y : Int) * p) := by
  unfold pointC
  rw [show (y * W + x) % W = x by rw [Nat.mul_comm, Nat.mul_add_mod, Nat.mod_eq_of_lt h], show (y * W + x) / W = y by rw [Nat.mul_comm, Nat.mul_add_div (by omega), Nat.div_eq_of_lt h, Nat.add_zero]]
theorem spot_new (w : World) (x y : Int) : spotK.Is (w.alloc (.cells #[.int .i64 x, .int .i64 y] 76)) (.slice (some ⟨w.heap.size, 0, none⟩) 1 1) [(x, y)] :=
  (EK.Own.lit (K := spotK) (B := 0) w #[.int .i64 x, .int .i64 y] [(x, y)] rfl (Nat.zero_le _) (by simp [maxLen])).is

set_option maxRecDepth 100000 in
set_option maxHeartbeats 16000000 in
theorem refCarve_any (k : WkT) (v : Value) (fx fy p Wd Ht : Int) (w : World) (hI : CutsIs w v k.cuts) :
    Calls Try.prog 48 #[k.val v, V2 fx fy, .int .i64 p, .int .i64 Wd, .int .i64 Ht] w (CarvRet w (ifOk (carveE k fx fy p Wd Ht) Wd) (ifOk (carveE k fx fy p Wd Ht) Ht) (ifOk (carveE k fx fy p Wd Ht) p) (carveE k fx fy p Wd Ht) (carveL k fx fy p Wd Ht)) := by
  have HII := Lib.hid fun (W : World) (x : Ext w W) => hI.ext x
  have HCK := Lib.hid fun (W : World) (x : Ext w W) => refCheck_any k v W (hI.ext x)
  obtain ⟨A, c, rfl, hA0, ⟨hc1, hc2⟩, hat⟩ := cutsIs_at hI
  obtain ⟨n, hn⟩ : ∃ n, n = k.cuts.length := ⟨_, rfl⟩
  rw [← hn] at HCK hc1 HII ⊢
  have HN := Lib.hid hn
  have HAT := Lib.hid hat
  have HNO := Lib.hid fun (er : Int) (W : World) (hE : carveE k fx fy p Wd Ht = er) (h : er ≠ 0) (x : Ext w W) => carvRet_no hE h x
  have hn63 : n ≤ 9223372036854775807 := by unfold maxLen at hc2; omega
  clear hI hat hn hc1 hc2 hA0
  have X0 := Lib.hid (show Ext w (((w.alloc (.cells #[.int .i64 k.tip, .int .i64 k.num, .int .i64 k.den, .int .i64 k.bite, .int .i64 k.slack, .int .i64 k.wall, .int .i64 k.deepest, .int .i64 k.play, .int .i64 k.fx, .int .i64 k.fy, .int .i64 k.fh, .int .i64 k.fd, .slice A n c] 79)).alloc (.cells #[.int .i64 fx, .int .i64 fy] 76)).alloc (.cells #[.int .i64 0, .int .i64 0, .int .i64 0, .slice none 0 0] 37)) from by (repeat' (first | with_reducible exact Ext.refl _ | with_reducible apply Ext.alloc | with_reducible apply Ext.drew | with_reducible apply Ext.drewN | with_reducible refine Ext.setCell ?_ ?_ _ | with_reducible apply Ext.step | with_reducible assumption | with_reducible exact Nat.le_refl _ | (simp; done) | (simp; omega))))
  go_enter Try.func48, Try.ntmps48
  go_wp2_with fail
  refine (HCK.out _ X0.out).mono ?_
  rintro e w1 ⟨rfl, x1⟩
  have HX1 := Lib.hid (X0.out.trans x1)
  have HWK := Lib.hid ((((WkD.new k (.slice A n c) w).ext ((Ext.refl _).alloc (.cells #[.int .i64 fx, .int .i64 fy] 76))).ext ((Ext.refl _).alloc (.cells #[.int .i64 0, .int .i64 0, .int .i64 0, .slice none 0 0] 37))).ext x1)
  have s0 : w1.cell? ⟨w.heap.size + 1, 0, none⟩ = some (.int .i64 fx) := x1.cell_some (by go_cell)
  have s1 : w1.cell? ⟨w.heap.size + 1, 1, none⟩ = some (.int .i64 fy) := x1.cell_some (by go_cell)
  have HRB := Lib.hid (show ArBox w1 (w.heap.size + 1 + 1) (.int .i64 0) (.int .i64 0) (.int .i64 0) (.slice none 0 0) from by
    have := (ArBox.new ((w.alloc (.cells #[.int .i64 k.tip, .int .i64 k.num, .int .i64 k.den, .int .i64 k.bite, .int .i64 k.slack, .int .i64 k.wall, .int .i64 k.deepest, .int .i64 k.play, .int .i64 k.fx, .int .i64 k.fy, .int .i64 k.fh, .int .i64 k.fd, .slice A n c] 79)).alloc (.cells #[.int .i64 fx, .int .i64 fy] 76)) (.int .i64 0) (.int .i64 0) (.int .i64 0) (.slice none 0 0)).ext x1
    simpa using this)
  have HS := Lib.hid (And.intro s0 s1)
  clear x1 s0 s1 X0
  cases hwb : workB k
  · have hwe : workE k = 51 := if_neg (by rw [hwb]; exact Bool.false_ne_true)
    have HE := Lib.hid (show carveE k fx fy p Wd Ht = 51 from if_neg (by rw [hwb]; exact Bool.false_ne_true))
    rw [hwe]
    clear hwb hwe
    have hrx := HRB.out
    have r0 := hrx.c0
    have r1 := hrx.c1
    have r2 := hrx.c2
    have r3 := hrx.c3
    have f0 := hrx.f0
    have f1 := hrx.f1
    have f2 := hrx.f2
    have f3 := hrx.f3
    have lr := cell_lt r0
    have HRX := Lib.hid hrx
    have HXE := Lib.hid (HX1.out)
    clear hrx
    go_wp2_with fail
    have hp := HRX.out.put (.int .i64 0) (.int .i64 0) (.int .i64 0) (.slice none 0 0)
    have hwb : w.heap.size ≤ w.heap.size + 1 + 1 := by omega
    have hx4 : Ext w ((((w1.setCell ⟨w.heap.size + 1 + 1, 0, none⟩ (.int .i64 0)).setCell ⟨w.heap.size + 1 + 1, 1, none⟩ (.int .i64 0)).setCell ⟨w.heap.size + 1 + 1, 2, none⟩ (.int .i64 0)).setCell ⟨w.heap.size + 1 + 1, 3, none⟩ (.slice none 0 0)) :=
      (((HXE.out.setCell (p := ⟨w.heap.size + 1 + 1, 0, none⟩) hwb _).setCell (p := ⟨w.heap.size + 1 + 1, 1, none⟩) hwb _).setCell (p := ⟨w.heap.size + 1 + 1, 2, none⟩) hwb _).setCell (p := ⟨w.heap.size + 1 + 1, 3, none⟩) hwb _
    have HXF4 := Lib.hid hx4
    clear hx4 hwb r0 r1 r2 r3 f0 f1 f2 f3 lr
    generalize ((((w1.setCell ⟨w.heap.size + 1 + 1, 0, none⟩ (.int .i64 0)).setCell ⟨w.heap.size + 1 + 1, 1, none⟩ (.int .i64 0)).setCell ⟨w.heap.size + 1 + 1, 2, none⟩ (.int .i64 0)).setCell ⟨w.heap.size + 1 + 1, 3, none⟩ (.slice none 0 0)) = WF at *
    have q0 := hp.c0
    have q1 := hp.c1
    have q2 := hp.c2
    have q3 := hp.c3
    refine bodyPost_ret (v := .tuple #[surfV 0 0 0 (.slice none 0 0), .int .i64 51]) (by simp [results, Try.results48, go_sem, q0, q1, q2, q3]) rfl ?_
    exact HNO.out 51 _ HE.out (by decide) HXF4.out
  have hwe : workE k = 0 := if_pos hwb
  rw [hwe]
  have HWB := Lib.hid hwb
  have HCE := Lib.hid (show carveE k fx fy p Wd Ht = if argsB fx fy p Wd Ht && lowB k then (if endB fx fy p Wd Ht then 0 else 6) else 2 from if_pos hwb)
  obtain ⟨htb, -, h16, hcut⟩ := workB_iff.1 hwb
  obtain ⟨⟨ht1, ht2⟩, ⟨hn1, hn2⟩, ⟨hd1, hd2⟩, -, ⟨hb1, hb2⟩, hsl1, hsl2⟩ := toolB_iff.1 htb
  rw [← HN.out] at h16
  have HTB := Lib.hid htb
  have HCU := Lib.hid hcut
  have HHG := Lib.hid fun (pr : Int) (y1 : 0 ≤ pr) (y2 : pr ≤ 1000) (W : World) => refHigh_any k.tip k.num k.den k.bite k.slack pr W hb1 hb2 hsl1 hsl2 y1 y2
  clear hwb hwe htb hcut ht1 ht2 hn1 hn2 hd1 hd2 hb1 hb2 hsl1 hsl2
  have s0 := HS.out.1
  have s1 := HS.out.2
  have ls := cell_lt s0
  have HAG := Lib.hid (show argsB fx fy p Wd Ht = (((lineB [(fx, fy)] && inB 1 100 p) && inB 2 24 Wd) && inB 2 24 Ht) by rw [line_one]; unfold argsB; simp only [Bool.and_assoc])
  have HG1 := Lib.hid fun (u : Value) (W : World) (hu : spotK.Is W u [(fx, fy)]) => (refLine_any u [(fx, fy)] W hu).mono (R' := fun e w' => e = .returned (.bool (lineB [(fx, fy)])) ∧ Ext W w') fun e w' h => ⟨h.1, h.2 ▸ Ext.refl _⟩
  have HG2 := Lib.hid fun W : World => within6_any p 1 100 W
  have HG3 := Lib.hid fun W : World => within6_any Wd 2 24 W
  have HG4 := Lib.hid fun W : World => within6_any Ht 2 24 W
  cases h1 : lineB [(fx, fy)]
  · have HE := Lib.hid (show carveE k fx fy p Wd Ht = 2 by rw [HCE.out, show argsB fx fy p Wd Ht = false by rw [HAG.out, h1]; simp]; rfl)
    rw [h1] at HG1
    clear h1
    go_wp2_with fail
    refine (HG1.out _ _ (spot_new _ _ _)).mono ?_
    rintro e w2 ⟨rfl, x2⟩
    have HX2 := Lib.hid (show Ext w1 w2 from Ext.trans (by (repeat' (first | with_reducible exact Ext.refl _ | with_reducible apply Ext.alloc | with_reducible apply Ext.drew | with_reducible apply Ext.drewN | with_reducible refine Ext.setCell ?_ ?_ _ | with_reducible apply Ext.step | with_reducible assumption | with_reducible exact Nat.le_refl _ | (simp; done) | (simp; omega)))) x2)
    clear x2
    clear s0 s1 ls
    have hrx := HRB.out.ext HX2.out
    have r0 := hrx.c0
    have r1 := hrx.c1
    have r2 := hrx.c2
    have r3 := hrx.c3
    have f0 := hrx.f0
    have f1 := hrx.f1
    have f2 := hrx.f2
    have f3 := hrx.f3
    have lr := cell_lt r0
    have HRX := Lib.hid hrx
    have HXE := Lib.hid (HX1.out.trans HX2.out)
    clear hrx
    go_wp2_with fail
    have hp := HRX.out.put (.int .i64 0) (.int .i64 0) (.int .i64 0) (.slice none 0 0)
    have hwb : w.heap.size ≤ w.heap.size + 1 + 1 := by omega
    have hx4 : Ext w ((((w2.setCell ⟨w.heap.size + 1 + 1, 0, none⟩ (.int .i64 0)).setCell ⟨w.heap.size + 1 + 1, 1, none⟩ (.int .i64 0)).setCell ⟨w.heap.size + 1 + 1, 2, none⟩ (.int .i64 0)).setCell ⟨w.heap.size + 1 + 1, 3, none⟩ (.slice none 0 0)) :=
      (((HXE.out.setCell (p := ⟨w.heap.size + 1 + 1, 0, none⟩) hwb _).setCell (p := ⟨w.heap.size + 1 + 1, 1, none⟩) hwb _).setCell (p := ⟨w.heap.size + 1 + 1, 2, none⟩) hwb _).setCell (p := ⟨w.heap.size + 1 + 1, 3, none⟩) hwb _
    have HXF4 := Lib.hid hx4
    clear hx4 hwb r0 r1 r2 r3 f0 f1 f2 f3 lr
    generalize ((((w2.setCell ⟨w.heap.size + 1 + 1, 0, none⟩ (.int .i64 0)).setCell ⟨w.heap.size + 1 + 1, 1, none⟩ (.int .i64 0)).setCell ⟨w.heap.size + 1 + 1, 2, none⟩ (.int .i64 0)).setCell ⟨w.heap.size + 1 + 1, 3, none⟩ (.slice none 0 0)) = WF at *
    have q0 := hp.c0
    have q1 := hp.c1
    have q2 := hp.c2
    have q3 := hp.c3
    refine bodyPost_ret (v := .tuple #[surfV 0 0 0 (.slice none 0 0), .int .i64 2]) (by simp [results, Try.results48, go_sem, q0, q1, q2, q3]) rfl ?_
    exact HNO.out 2 _ HE.out (by decide) HXF4.out
  cases h2 : inB 1 100 p
  · have HE := Lib.hid (show carveE k fx fy p Wd Ht = 2 by rw [HCE.out, show argsB fx fy p Wd Ht = false by rw [HAG.out, h2]; simp]; rfl)
    rw [h1] at HG1
    rw [h2] at HG2
    clear h1 h2
    go_wp2_with fail
    refine (HG1.out _ _ (spot_new _ _ _)).mono ?_
    rintro e w2 ⟨rfl, x2⟩
    have HX2 := Lib.hid (show Ext w1 w2 from Ext.trans (by (repeat' (first | with_reducible exact Ext.refl _ | with_reducible apply Ext.alloc | with_reducible apply Ext.drew | with_reducible apply Ext.drewN | with_reducible refine Ext.setCell ?_ ?_ _ | with_reducible apply Ext.step | with_reducible assumption | with_reducible exact Nat.le_refl _ | (simp; done) | (simp; omega)))) x2)
    clear x2
    go_wp2_with fail
    refine (HG2.out _).mono ?_
    rintro e _ ⟨rfl, rfl⟩
    clear s0 s1 ls
    have hrx := HRB.out.ext HX2.out
    have r0 := hrx.c0
    have r1 := hrx.c1
    have r2 := hrx.c2
    have r3 := hrx.c3
    have f0 := hrx.f0
    have f1 := hrx.f1
    have f2 := hrx.f2
    have f3 := hrx.f3
    have lr := cell_lt r0
    have HRX := Lib.hid hrx
    have HXE := Lib.hid (HX1.out.trans HX2.out)
    clear hrx
    go_wp2_with fail
    have hp := HRX.out.put (.int .i64 0) (.int .i64 0) (.int .i64 0) (.slice none 0 0)
    have hwb : w.heap.size ≤ w.heap.size + 1 + 1 := by omega
    have hx4 : Ext w ((((w2.setCell ⟨w.heap.size + 1 + 1, 0, none⟩ (.int .i64 0)).setCell ⟨w.heap.size + 1 + 1, 1, none⟩ (.int .i64 0)).setCell ⟨w.heap.size + 1 + 1, 2, none⟩ (.int .i64 0)).setCell ⟨w.heap.size + 1 + 1, 3, none⟩ (.slice none 0 0)) :=
      (((HXE.out.setCell (p := ⟨w.heap.size + 1 + 1, 0, none⟩) hwb _).setCell (p := ⟨w.heap.size + 1 + 1, 1, none⟩) hwb _).setCell (p := ⟨w.heap.size + 1 + 1, 2, none⟩) hwb _).setCell (p := ⟨w.heap.size + 1 + 1, 3, none⟩) hwb _
    have HXF4 := Lib.hid hx4
    clear hx4 hwb r0 r1 r2 r3 f0 f1 f2 f3 lr
    generalize ((((w2.setCell ⟨w.heap.size + 1 + 1, 0, none⟩ (.int .i64 0)).setCell ⟨w.heap.size + 1 + 1, 1, none⟩ (.int .i64 0)).setCell ⟨w.heap.size + 1 + 1, 2, none⟩ (.int .i64 0)).setCell ⟨w.heap.size + 1 + 1, 3, none⟩ (.slice none 0 0)) = WF at *
    have q0 := hp.c0
    have q1 := hp.c1
    have q2 := hp.c2
    have q3 := hp.c3
    refine bodyPost_ret (v := .tuple #[surfV 0 0 0 (.slice none 0 0), .int .i64 2]) (by simp [results, Try.results48, go_sem, q0, q1, q2, q3]) rfl ?_
    exact HNO.out 2 _ HE.out (by decide) HXF4.out
  cases h3 : inB 2 24 Wd
  · have HE := Lib.hid (show carveE k fx fy p Wd Ht = 2 by rw [HCE.out, show argsB fx fy p Wd Ht = false by rw [HAG.out, h3]; simp]; rfl)
    rw [h1] at HG1
    rw [h2] at HG2
    rw [h3] at HG3
    clear h1 h2 h3
    go_wp2_with fail
    refine (HG1.out _ _ (spot_new _ _ _)).mono ?_
    rintro e w2 ⟨rfl, x2⟩
    have HX2 := Lib.hid (show Ext w1 w2 from Ext.trans (by (repeat' (first | with_reducible exact Ext.refl _ | with_reducible apply Ext.alloc | with_reducible apply Ext.drew | with_reducible apply Ext.drewN | with_reducible refine Ext.setCell ?_ ?_ _ | with_reducible apply Ext.step | with_reducible assumption | with_reducible exact Nat.le_refl _ | (simp; done) | (simp; omega)))) x2)
    clear x2
    go_wp2_with fail
    refine (HG2.out _).mono ?_
    rintro e _ ⟨rfl, rfl⟩
    go_wp2_with fail
    refine (HG3.out _).mono ?_
    rintro e _ ⟨rfl, rfl⟩
    clear s0 s1 ls
    have hrx := HRB.out.ext HX2.out
    have r0 := hrx.c0
    have r1 := hrx.c1
    have r2 := hrx.c2
    have r3 := hrx.c3
    have f0 := hrx.f0
    have f1 := hrx.f1
    have f2 := hrx.f2
    have f3 := hrx.f3
    have lr := cell_lt r0
    have HRX := Lib.hid hrx
    have HXE := Lib.hid (HX1.out.trans HX2.out)
    clear hrx
    go_wp2_with fail
    have hp := HRX.out.put (.int .i64 0) (.int .i64 0) (.int .i64 0) (.slice none 0 0)
    have hwb : w.heap.size ≤ w.heap.size + 1 + 1 := by omega
    have hx4 : Ext w ((((w2.setCell ⟨w.heap.size + 1 + 1, 0, none⟩ (.int .i64 0)).setCell ⟨w.heap.size + 1 + 1, 1, none⟩ (.int .i64 0)).setCell ⟨w.heap.size + 1 + 1, 2, none⟩ (.int .i64 0)).setCell ⟨w.heap.size + 1 + 1, 3, none⟩ (.slice none 0 0)) :=
      (((HXE.out.setCell (p := ⟨w.heap.size + 1 + 1, 0, none⟩) hwb _).setCell (p := ⟨w.heap.size + 1 + 1, 1, none⟩) hwb _).setCell (p := ⟨w.heap.size + 1 + 1, 2, none⟩) hwb _).setCell (p := ⟨w.heap.size + 1 + 1, 3, none⟩) hwb _
    have HXF4 := Lib.hid hx4
    clear hx4 hwb r0 r1 r2 r3 f0 f1 f2 f3 lr
    generalize ((((w2.setCell ⟨w.heap.size + 1 + 1, 0, none⟩ (.int .i64 0)).setCell ⟨w.heap.size + 1 + 1, 1, none⟩ (.int .i64 0)).setCell ⟨w.heap.size + 1 + 1, 2, none⟩ (.int .i64 0)).setCell ⟨w.heap.size + 1 + 1, 3, none⟩ (.slice none 0 0)) = WF at *
    have q0 := hp.c0
    have q1 := hp.c1
    have q2 := hp.c2
    have q3 := hp.c3
    refine bodyPost_ret (v := .tuple #[surfV 0 0 0 (.slice none 0 0), .int .i64 2]) (by simp [results, Try.results48, go_sem, q0, q1, q2, q3]) rfl ?_
    exact HNO.out 2 _ HE.out (by decide) HXF4.out
  cases h4 : inB 2 24 Ht
  · have HE := Lib.hid (show carveE k fx fy p Wd Ht = 2 by rw [HCE.out, show argsB fx fy p Wd Ht = false by rw [HAG.out, h4]; simp]; rfl)
    rw [h1] at HG1
    rw [h2] at HG2
    rw [h3] at HG3
    rw [h4] at HG4
    clear h1 h2 h3 h4
    go_wp2_with fail
    refine (HG1.out _ _ (spot_new _ _ _)).mono ?_
    rintro e w2 ⟨rfl, x2⟩
    have HX2 := Lib.hid (show Ext w1 w2 from Ext.trans (by (repeat' (first | with_reducible exact Ext.refl _ | with_reducible apply Ext.alloc | with_reducible apply Ext.drew | with_reducible apply Ext.drewN | with_reducible refine Ext.setCell ?_ ?_ _ | with_reducible apply Ext.step | with_reducible assumption | with_reducible exact Nat.le_refl _ | (simp; done) | (simp; omega)))) x2)
    clear x2
    go_wp2_with fail
    refine (HG2.out _).mono ?_
    rintro e _ ⟨rfl, rfl⟩
    go_wp2_with fail
    refine (HG3.out _).mono ?_
    rintro e _ ⟨rfl, rfl⟩
    go_wp2_with fail
    refine (HG4.out _).mono ?_
    rintro e _ ⟨rfl, rfl⟩
    clear s0 s1 ls
    have hrx := HRB.out.ext HX2.out
    have r0 := hrx.c0
    have r1 := hrx.c1
    have r2 := hrx.c2
    have r3 := hrx.c3
    have f0 := hrx.f0
    have f1 := hrx.f1
    have f2 := hrx.f2
    have f3 := hrx.f3
    have lr := cell_lt r0
    have HRX := Lib.hid hrx
    have HXE := Lib.hid (HX1.out.trans HX2.out)
    clear hrx
    go_wp2_with fail
    have hp := HRX.out.put (.int .i64 0) (.int .i64 0) (.int .i64 0) (.slice none 0 0)
    have hwb : w.heap.size ≤ w.heap.size + 1 + 1 := by omega
    have hx4 : Ext w ((((w2.setCell ⟨w.heap.size + 1 + 1, 0, none⟩ (.int .i64 0)).setCell ⟨w.heap.size + 1 + 1, 1, none⟩ (.int .i64 0)).setCell ⟨w.heap.size + 1 + 1, 2, none⟩ (.int .i64 0)).setCell ⟨w.heap.size + 1 + 1, 3, none⟩ (.slice none 0 0)) :=
      (((HXE.out.setCell (p := ⟨w.heap.size + 1 + 1, 0, none⟩) hwb _).setCell (p := ⟨w.heap.size + 1 + 1, 1, none⟩) hwb _).setCell (p := ⟨w.heap.size + 1 + 1, 2, none⟩) hwb _).setCell (p := ⟨w.heap.size + 1 + 1, 3, none⟩) hwb _
    have HXF4 := Lib.hid hx4
    clear hx4 hwb r0 r1 r2 r3 f0 f1 f2 f3 lr
    generalize ((((w2.setCell ⟨w.heap.size + 1 + 1, 0, none⟩ (.int .i64 0)).setCell ⟨w.heap.size + 1 + 1, 1, none⟩ (.int .i64 0)).setCell ⟨w.heap.size + 1 + 1, 2, none⟩ (.int .i64 0)).setCell ⟨w.heap.size + 1 + 1, 3, none⟩ (.slice none 0 0)) = WF at *
    have q0 := hp.c0
    have q1 := hp.c1
    have q2 := hp.c2
    have q3 := hp.c3
    refine bodyPost_ret (v := .tuple #[surfV 0 0 0 (.slice none 0 0), .int .i64 2]) (by simp [results, Try.results48, go_sem, q0, q1, q2, q3]) rfl ?_
    exact HNO.out 2 _ HE.out (by decide) HXF4.out
  have HAB := Lib.hid (show argsB fx fy p Wd Ht = true by rw [HAG.out, h1, h2, h3, h4]; rfl)
  rw [h1] at HG1
  rw [h2] at HG2
  rw [h3] at HG3
  rw [h4] at HG4
  clear h1 h2 h3 h4
  go_wp2_with fail
  refine (HG1.out _ _ (spot_new _ _ _)).mono ?_
  rintro e w2 ⟨rfl, x2⟩
  have HX2 := Lib.hid (show Ext w1 w2 from Ext.trans (by (repeat' (first | with_reducible exact Ext.refl _ | with_reducible apply Ext.alloc | with_reducible apply Ext.drew | with_reducible apply Ext.drewN | with_reducible refine Ext.setCell ?_ ?_ _ | with_reducible apply Ext.step | with_reducible assumption | with_reducible exact Nat.le_refl _ | (simp; done) | (simp; omega)))) x2)
  clear x2
  go_wp2_with fail
  refine (HG2.out _).mono ?_
  rintro e _ ⟨rfl, rfl⟩
  go_wp2_with fail
  refine (HG3.out _).mono ?_
  rintro e _ ⟨rfl, rfl⟩
  go_wp2_with fail
  refine (HG4.out _).mono ?_
  rintro e _ ⟨rfl, rfl⟩
  have HWK2 := Lib.hid (HWK.out.ext HX2.out)
  have c12 := HWK2.out.c12
  have l12 := cell_lt c12
  clear s0 s1 ls HG1 HG2 HG3 HG4
  go_wp2_with fail
  clear c12 l12
  obtain ⟨⟨p1, p2⟩, ⟨p3, p4⟩, ⟨p5, p6⟩, ⟨p7, p8⟩, p9, p10⟩ := argsB_iff.1 HAB.out
  go_loopw [13] (fun iv wr => ∃ j : Nat, j ≤ n ∧ iv = .int .i64 (j : Int) ∧ Hid (∀ q (hq : q < k.cuts.length), q < j → hiC k k.cuts[q] ≤ 100) ∧ Ext w2 wr) (fun iv _ => n - (intOf iv).toNat)
  case atStart => exact ⟨0, by omega, rfl, Lib.hid (fun q hq h => by omega), Ext.refl _⟩
  case round =>
    obtain ⟨j, hj, rfl, HLW, hx⟩ := hrel
    have HX := Lib.hid hx
    by_cases hlt : j < n
    · have hjl : j < k.cuts.length := by rw [← HN.out]; exact hlt
      have hji : (j : Int) < (n : Int) := by omega
      obtain ⟨b, o, T, rfl, hb, d0, d1, d2, -⟩ := HAT.out j hjl
      have x0 := HX1.out.trans (HX2.out.trans hx)
      replace d1 := x0.cell_some d1
      have ld := cell_lt d1
      have hwk := HWK2.out.ext hx
      have c0 := hwk.c0
      have c1 := hwk.c1
      have c2 := hwk.c2
      have c3 := hwk.c3
      have c4 := hwk.c4
      have c12 := hwk.c12
      have lw := cell_lt c0
      have hcb := HCU.out _ (List.getElem_mem hjl)
      obtain ⟨-, y1, y2⟩ := cutB_iff.1 hcb
      have HHI := Lib.hid fun W : World => (show Calls Try.prog 90 #[toolV k.tip k.num k.den k.bite k.slack, .int .i64 k.cuts[j].2.1] W fun e w' => e = .returned (.int .i64 (hiC k k.cuts[j])) ∧ Ext W w' from HHG.out _ y1 y2 W)
      have HNL := Lib.hid fun (h : 100 < hiC k k.cuts[j]) => (show carveE k fx fy p Wd Ht = 2 from by
        have : lowB k = false := List.all_eq_false.2 ⟨_, List.getElem_mem hjl, by rw [decide_eq_true_eq]; omega⟩
        rw [HCE.out, this, Bool.and_false]
        rfl)
      have HNX := Lib.hid fun (h : hiC k k.cuts[j] ≤ 100) => (show ∀ q (hq : q < k.cuts.length), q < j + 1 → hiC k k.cuts[q] ≤ 100 from fun q hq hqj => by
        rcases (by omega : q < j ∨ q = j) with h5 | rfl
        · exact HLW.out q hq h5
        · exact h)
      have HRX0 := Lib.hid (HRB.out.ext (HX2.out.trans hx))
      have HXW := Lib.hid x0
      generalize hiC k k.cuts[j] = hi at *
      generalize k.cuts[j].2.1 = pr at *
      clear hx x0 hwk hcb y1 y2 hb d0 d2
      by_cases hh : 100 < hi
      · have hh' : decide ((100 : Int) < hi) = true := decide_eq_true hh
        have HE := Lib.hid (HNL.out hh)
        clear hh
        go_wp2_with fail
        refine wp_region_bext (by kernel_rfl) (by kernel_rfl) ?_
        repeat (any_goals (go_big_quiet_step ((go_at_call 90; exact bext_call (HHI.out _)))))
        all_goals refine wpQuiet_nil ?_
        all_goals rintro _ ⟨δ, rfl⟩
        have HXQ := Lib.hid (show Ext wr δ.wd from ⟨δ, rfl⟩)
        generalize δ.wd = w5 at *
        clear c0 c1 c2 c3 c4 c12 lw d1 ld
        have hrx := HRX0.out.ext HXQ.out
        have r0 := hrx.c0
        have r1 := hrx.c1
        have r2 := hrx.c2
        have r3 := hrx.c3
        have f0 := hrx.f0
        have f1 := hrx.f1
        have f2 := hrx.f2
        have f3 := hrx.f3
        have lr := cell_lt r0
        have HRX := Lib.hid hrx
        have HXE := Lib.hid (HXW.out.trans HXQ.out)
        clear hrx
        go_wp2_with fail
        have hp := HRX.out.put (.int .i64 0) (.int .i64 0) (.int .i64 0) (.slice none 0 0)
        have hwb : w.heap.size ≤ w.heap.size + 1 + 1 := by omega
        have hx4 : Ext w ((((w5.setCell ⟨w.heap.size + 1 + 1, 0, none⟩ (.int .i64 0)).setCell ⟨w.heap.size + 1 + 1, 1, none⟩ (.int .i64 0)).setCell ⟨w.heap.size + 1 + 1, 2, none⟩ (.int .i64 0)).setCell ⟨w.heap.size + 1 + 1, 3, none⟩ (.slice none 0 0)) :=
          (((HXE.out.setCell (p := ⟨w.heap.size + 1 + 1, 0, none⟩) hwb _).setCell (p := ⟨w.heap.size + 1 + 1, 1, none⟩) hwb _).setCell (p := ⟨w.heap.size + 1 + 1, 2, none⟩) hwb _).setCell (p := ⟨w.heap.size + 1 + 1, 3, none⟩) hwb _
        have HXF4 := Lib.hid hx4
        clear hx4 hwb r0 r1 r2 r3 f0 f1 f2 f3 lr
        generalize ((((w5.setCell ⟨w.heap.size + 1 + 1, 0, none⟩ (.int .i64 0)).setCell ⟨w.heap.size + 1 + 1, 1, none⟩ (.int .i64 0)).setCell ⟨w.heap.size + 1 + 1, 2, none⟩ (.int .i64 0)).setCell ⟨w.heap.size + 1 + 1, 3, none⟩ (.slice none 0 0)) = WF at *
        have q0 := hp.c0
        have q1 := hp.c1
        have q2 := hp.c2
        have q3 := hp.c3
        refine bodyPost_ret (v := .tuple #[surfV 0 0 0 (.slice none 0 0), .int .i64 2]) (by simp [results, Try.results48, go_sem, q0, q1, q2, q3]) rfl ?_
        exact HNO.out 2 _ HE.out (by decide) HXF4.out
      have hh' : decide ((100 : Int) < hi) = false := decide_eq_false hh
      have HNX2 := Lib.hid (HNX.out (by omega))
      clear hh HNL HNX
      go_wp2_with fail
      refine wp_region_bext (by kernel_rfl) (by kernel_rfl) ?_
      repeat (any_goals (go_big_quiet_step ((go_at_call 90; exact bext_call (HHI.out _)))))
      all_goals refine wpQuiet_nil ?_
      all_goals rintro _ ⟨δ, rfl⟩
      have HXQ := Lib.hid (show Ext wr δ.wd from ⟨δ, rfl⟩)
      generalize δ.wd = w5 at *
      clear c0 c1 c2 c3 c4 lw d1 ld
      go_wp2_with fail
      go_roundw
      case rel => exact ⟨j + 1, by omega, by go_num, HNX2, HX.out.trans HXQ.out⟩
      case measure => simp [intOf]; omega
    · obtain rfl : j = n := by omega
      have HLB := Lib.hid (show lowB k = true from List.all_eq_true.2 fun x hm => by
        obtain ⟨q, hq, rfl⟩ := List.getElem_of_mem hm
        exact decide_eq_true (HLW.out q hq (by rw [HN.out]; exact hq)))
      have s0 := (HX2.out.trans hx).cell_some HS.out.1
      have s1 := (HX2.out.trans hx).cell_some HS.out.2
      have ls := cell_lt s0
      have hwk := HWK2.out.ext hx
      have c12 := hwk.c12
      have l12 := cell_lt c12
      obtain ⟨wp, rfl⟩ : ∃ wp, wp = wr := ⟨wr, rfl⟩
      have HXP := Lib.hid (HX1.out.trans (HX2.out.trans hx))
      have HWKP := Lib.hid hwk
      have HRP := Lib.hid (HRB.out.ext (HX2.out.trans hx))
      have HSP := Lib.hid (And.intro s0 s1)
      have hm1 := mul_bd (show 0 ≤ Wd - 1 by omega) (show Wd - 1 ≤ 23 by omega) (show 0 ≤ p by omega) p6
      have hm2 := mul_bd (show 0 ≤ Ht - 1 by omega) (show Ht - 1 ≤ 23 by omega) (show 0 ≤ p by omega) p6
      have k1 : IntKind.i64.wrap (Wd - 1) = Wd - 1 := IntWalk.i64_in _ (by omega)
      have k2 : IntKind.i64.wrap ((Wd - 1) * p) = (Wd - 1) * p := IntWalk.i64_in _ (by omega)
      obtain ⟨ex, hex⟩ : ∃ z, z = fx + (Wd - 1) * p := ⟨_, rfl⟩
      obtain ⟨ey, hey⟩ : ∃ z, z = fy + (Ht - 1) * p := ⟨_, rfl⟩
      have k3 : IntKind.i64.wrap (fx + (Wd - 1) * p) = ex := by rw [hex]; exact IntWalk.i64_in _ (by omega)
      have k4 : IntKind.i64.wrap (Ht - 1) = Ht - 1 := IntWalk.i64_in _ (by omega)
      have k5 : IntKind.i64.wrap ((Ht - 1) * p) = (Ht - 1) * p := IntWalk.i64_in _ (by omega)
      have k6 : IntKind.i64.wrap (fy + (Ht - 1) * p) = ey := by rw [hey]; exact IntWalk.i64_in _ (by omega)
      have HEB := Lib.hid (show endB fx fy p Wd Ht = lineB [(ex, ey)] by rw [line_one, hex, hey]; rfl)
      have HG4 := Lib.hid fun (u : Value) (W : World) (hu : spotK.Is W u [(ex, ey)]) => (refLine_any u [(ex, ey)] W hu).mono (R' := fun e w' => e = .returned (.bool (lineB [(ex, ey)])) ∧ Ext W w') fun e w' h => ⟨h.1, h.2 ▸ Ext.refl _⟩
      clear hx hwk hex hey hm1 hm2
      cases h4 : lineB [(ex, ey)]
      · have HE := Lib.hid (show carveE k fx fy p Wd Ht = 6 by rw [HCE.out, HAB.out, HLB.out, HEB.out, h4]; rfl)
        rw [h4] at HG4
        clear h4
        go_wp2_with fail
        have HQ := HG4.out _ _ (spot_new wp ex ey)
        refine HQ.mono ?_
        rintro e w5 ⟨rfl, x5⟩
        have HX5 := Lib.hid (show Ext wp w5 from Ext.trans (by (repeat' (first | with_reducible exact Ext.refl _ | with_reducible apply Ext.alloc | with_reducible apply Ext.drew | with_reducible apply Ext.drewN | with_reducible refine Ext.setCell ?_ ?_ _ | with_reducible apply Ext.step | with_reducible assumption | with_reducible exact Nat.le_refl _ | (simp; done) | (simp; omega)))) x5)
        clear x5 s0 s1 ls k1 k2 k3 k4 k5 k6 c12 l12
        have hrx := HRP.out.ext HX5.out
        have r0 := hrx.c0
        have r1 := hrx.c1
        have r2 := hrx.c2
        have r3 := hrx.c3
        have f0 := hrx.f0
        have f1 := hrx.f1
        have f2 := hrx.f2
        have f3 := hrx.f3
        have lr := cell_lt r0
        have HRX := Lib.hid hrx
        have HXE := Lib.hid (HXP.out.trans HX5.out)
        clear hrx
        go_wp2_with fail
        have hp := HRX.out.put (.int .i64 0) (.int .i64 0) (.int .i64 0) (.slice none 0 0)
        have hwb : w.heap.size ≤ w.heap.size + 1 + 1 := by omega
        have hx4 : Ext w ((((w5.setCell ⟨w.heap.size + 1 + 1, 0, none⟩ (.int .i64 0)).setCell ⟨w.heap.size + 1 + 1, 1, none⟩ (.int .i64 0)).setCell ⟨w.heap.size + 1 + 1, 2, none⟩ (.int .i64 0)).setCell ⟨w.heap.size + 1 + 1, 3, none⟩ (.slice none 0 0)) :=
          (((HXE.out.setCell (p := ⟨w.heap.size + 1 + 1, 0, none⟩) hwb _).setCell (p := ⟨w.heap.size + 1 + 1, 1, none⟩) hwb _).setCell (p := ⟨w.heap.size + 1 + 1, 2, none⟩) hwb _).setCell (p := ⟨w.heap.size + 1 + 1, 3, none⟩) hwb _
        have HXF4 := Lib.hid hx4
        clear hx4 hwb r0 r1 r2 r3 f0 f1 f2 f3 lr
        generalize ((((w5.setCell ⟨w.heap.size + 1 + 1, 0, none⟩ (.int .i64 0)).setCell ⟨w.heap.size + 1 + 1, 1, none⟩ (.int .i64 0)).setCell ⟨w.heap.size + 1 + 1, 2, none⟩ (.int .i64 0)).setCell ⟨w.heap.size + 1 + 1, 3, none⟩ (.slice none 0 0)) = WF at *
        have q0 := hp.c0
        have q1 := hp.c1
        have q2 := hp.c2
        have q3 := hp.c3
        refine bodyPost_ret (v := .tuple #[surfV 0 0 0 (.slice none 0 0), .int .i64 6]) (by simp [results, Try.results48, go_sem, q0, q1, q2, q3]) rfl ?_
        exact HNO.out 6 _ HE.out (by decide) HXF4.out
      rw [h4] at HG4 HEB
      have HZE := Lib.hid (show carveE k fx fy p Wd Ht = 0 by rw [HCE.out, HAB.out, HLB.out, HEB.out]; rfl)
      obtain ⟨W', hW'⟩ : ∃ W' : Nat, Wd = (W' : Int) := ⟨Wd.toNat, by omega⟩
      obtain ⟨H', hH'⟩ : ∃ H' : Nat, Ht = (H' : Int) := ⟨Ht.toNat, by omega⟩
      have hN5 := Nat.mul_le_mul (show W' ≤ 24 by omega) (show H' ≤ 24 by omega)
      obtain ⟨N, hNe⟩ : ∃ N, N = W' * H' := ⟨_, rfl⟩
      rw [← hNe] at hN5
      have HZL := Lib.hid (show carveL k fx fy p Wd Ht = carvL k fx fy p W' H' by
        unfold carveL
        rw [if_pos HZE.out, hW', hH', Int.toNat_natCast, Int.toNat_natCast])
      have HPL := Lib.hid fun (i : Nat) (hi : i < N) => (show lineB [pointC fx fy p W' i] = true from point_line (H := H') (by rw [← hW', ← hH']; exact HAB.out) (by rw [← hW', ← hH']; exact HEB.out) (by rw [← hNe]; exact hi))
      have HPB := Lib.hid fun (i : Nat) (hi : i < N) => point_in (fx := fx) (fy := fy) (p := p) (W := W') (H := H') (i := i) (by rw [← hW', ← hH']; exact HAB.out) (by rw [← hW', ← hH']; exact HEB.out) (by rw [← hNe]; exact hi)
      have HDU := Lib.hid fun (s : Int × Int) (j : Nat) (hj : j ≤ k.cuts.length) => deepUp_le (k := k) (s := s) HLB.out hj
      have HCL := Lib.hid (show (carvL k fx fy p W' H').length = N by rw [hNe]; simp [carvL])
      have HCS := Lib.hid fun (i : Nat) (hi : i < N) => (show (carvL k fx fy p W' H').take (i + 1) = (carvL k fx fy p W' H').take i ++ [carvC k (pointC fx fy p W' i)] by
        rw [List.take_succ_eq_append_getElem (by rw [HCL.out]; exact hi)]
        simp [carvL])
      clear h4
      have HNE := Lib.hid hNe
      have hW24 : W' ≤ 24 := by omega
      have hH24 : H' ≤ 24 := by omega
      subst hW' hH'
      clear hNe
      go_wp2_with fail
      have HQ := HG4.out _ _ (spot_new wp ex ey)
      refine HQ.mono ?_
      rintro e w5 ⟨rfl, x5⟩
      have HX5 := Lib.hid (show Ext wp w5 from Ext.trans (by (repeat' (first | with_reducible exact Ext.refl _ | with_reducible apply Ext.alloc | with_reducible apply Ext.drew | with_reducible apply Ext.drewN | with_reducible refine Ext.setCell ?_ ?_ _ | with_reducible apply Ext.step | with_reducible assumption | with_reducible exact Nat.le_refl _ | (simp; done) | (simp; omega)))) x5)
      clear x5 s0 s1 ls k1 k2 k3 k4 k5 k6 c12 l12
      obtain ⟨bs, hbs⟩ : ∃ z, z = w5.heap.size := ⟨_, rfl⟩
      have HBS := Lib.hid hbs
      clear hbs
      go_wp2_with fail
      refine lay_wp (fun W => ArBox W w5.heap.size (.int .i64 W') (.int .i64 H') (.int .i64 p) (.slice none 0 0) ∧ Ext w5 W ∧ w5.heap.size < W.heap.size) ⟨ArBox.new w5 _ _ _ _, by (repeat' (first | with_reducible exact Ext.refl _ | with_reducible apply Ext.alloc | with_reducible apply Ext.drew | with_reducible apply Ext.drewN | with_reducible refine Ext.setCell ?_ ?_ _ | with_reducible apply Ext.step | with_reducible assumption | with_reducible exact Nat.le_refl _ | (simp; done) | (simp; omega))), by simp⟩ ?_
      rw [← HBS.out]
      rintro wa ⟨hba, xa, hsz⟩
      have HBA := Lib.hid hba
      have HXA := Lib.hid xa
      have HSZ := Lib.hid hsz
      clear hba xa hsz
      go_loopw [15] (fun iv wr => ∃ y : Nat, y ≤ H' ∧ iv = .int .i64 (y : Int) ∧ (∃ sv, ArBox wr bs (.int .i64 W') (.int .i64 H') (.int .i64 p) sv ∧ intK.Own wa.heap.size wr sv ((carvL k fx fy p W' H').take (y * W'))) ∧ Ext w5 wr ∧ wa.heap.size ≤ wr.heap.size) (fun iv _ => H' - (intOf iv).toNat)
      case atStart => exact ⟨0, by omega, rfl, ⟨_, HBA.out, by rw [Nat.zero_mul]; exact EK.Own.nil _ _⟩, HXA.out, Nat.le_refl _⟩
      case round =>
        obtain ⟨y, hy, rfl, ⟨sv, hbx, ho⟩, hx, has⟩ := hrel
        have HAS0 := Lib.hid has
        clear has
        have HBX := Lib.hid hbx
        have HO := Lib.hid ho
        have HX6 := Lib.hid hx
        clear hbx ho hx
        by_cases hly : y < H'
        · have hyi : (y : Int) < (H' : Int) := by omega
          go_wp2_with fail
          obtain ⟨wo, rfl⟩ : ∃ wo, wo = wr := ⟨wr, rfl⟩
          go_loopw [16] (fun iv wr => ∃ x : Nat, x ≤ W' ∧ iv = .int .i64 (x : Int) ∧ (∃ sv, ArBox wr bs (.int .i64 W') (.int .i64 H') (.int .i64 p) sv ∧ intK.Own wa.heap.size wr sv ((carvL k fx fy p W' H').take (y * W' + x))) ∧ Ext w5 wr ∧ wa.heap.size ≤ wr.heap.size) (fun iv _ => W' - (intOf iv).toNat)
          case atStart => exact ⟨0, by omega, rfl, ⟨sv, HBX.out, HO.out⟩, HX6.out, HAS0.out⟩
          case round =>
            obtain ⟨x, hxw, rfl, ⟨sv, hbx, ho⟩, hx, has⟩ := hrel
            have HAS1 := Lib.hid has
            clear has
            obtain ⟨Av, kv, cv, rfl⟩ := ho.shape
            have HBX2 := Lib.hid hbx
            have HO2 := Lib.hid ho
            have HX7 := Lib.hid hx
            clear hbx ho hx
            by_cases hlx : x < W'
            · have hxi : (x : Int) < (W' : Int) := by omega
              obtain ⟨m, hm⟩ : ∃ m, m = y * W' + x := ⟨_, rfl⟩
              have hmN : m < N := by rw [hm, HNE.out, Nat.mul_comm W']; exact cell_in2R hlx hly
              have hpt : pointC fx fy p W' m = (fx + (x : Int) * p, fy + (y : Int) * p) := by rw [hm]; exact point_at hlx
              have hpb := HPB.out m hmN
              have hpl := HPL.out m hmN
              have HCS2 := Lib.hid (HCS.out m hmN)
              rw [hpt] at hpb hpl HCS2
              simp only at hpb
              have hxp := mul_bd (show (0 : Int) ≤ (x : Int) by omega) (show (x : Int) ≤ 24 by omega) (show 0 ≤ p by omega) p6
              have hyp := mul_bd (show (0 : Int) ≤ (y : Int) by omega) (show (y : Int) ≤ 24 by omega) (show 0 ≤ p by omega) p6
              obtain ⟨px, hpx⟩ : ∃ z, z = fx + (x : Int) * p := ⟨_, rfl⟩
              obtain ⟨py, hpy⟩ : ∃ z, z = fy + (y : Int) * p := ⟨_, rfl⟩
              have r1 : IntKind.i64.wrap ((x : Int) * p) = (x : Int) * p := IntWalk.i64_in _ (by omega)
              have r2 : IntKind.i64.wrap (fx + (x : Int) * p) = px := by rw [hpx]; exact IntWalk.i64_in _ (by omega)
              have r3 : IntKind.i64.wrap ((y : Int) * p) = (y : Int) * p := IntWalk.i64_in _ (by omega)
              have r4 : IntKind.i64.wrap (fy + (y : Int) * p) = py := by rw [hpy]; exact IntWalk.i64_in _ (by omega)
              rw [← hpx, ← hpy] at hpl HCS2
              have HDE := Lib.hid fun (q : Nat) (hq : q < k.cuts.length) (W : World) (xw : Ext w W) => refDeepC_any k (.slice A j c) q px py W (HII.out W xw) HWB.out hq hpl (by have := List.all_eq_true.1 HLB.out _ (List.getElem_mem hq); rwa [decide_eq_true_eq] at this)
              rw [hm] at HCS2
              clear hpt hpb hpl hxp hyp hpx hpy hm hmN
              go_wp2_with fail
              obtain ⟨wi, rfl⟩ : ∃ wi, wi = wr := ⟨wr, rfl⟩
              go_loopw [18, 17] (fun iv mv wr => ∃ q : Nat, q ≤ j ∧ iv = .int .i64 (q : Int) ∧ mv = .int .i64 (deepUp k (px, py) q : Int) ∧ Ext wi wr) (fun iv _ _ => j - (intOf iv).toNat)
              case atStart => exact ⟨0, by omega, rfl, rfl, Ext.refl _⟩
              case round =>
                obtain ⟨q, hq, rfl, rfl, hx⟩ := hrel
                have HX8 := Lib.hid hx
                by_cases hlq : q < j
                · have hqi : (q : Int) < (j : Int) := by omega
                  have hql : q < k.cuts.length := by rw [← HN.out]; exact hlq
                  have HDS := Lib.hid (deepUp_step (k := k) (s := (px, py)) hql)
                  have HDL := Lib.hid (HDU.out (px, py) q (by omega))
                  have HEQ := Lib.hid fun (W : World) (xw : Ext w W) => HDE.out q hql W xw
                  have hxw := HXP.out.trans (HX5.out.trans (HX7.out.trans hx))
                  have hwk := (HWKP.out.ext HX5.out).ext (HX7.out.trans hx)
                  have hsp0 := HX7.out.trans hx
                  have s0 := (HX5.out.trans hsp0).cell_some HSP.out.1
                  have s1 := (HX5.out.trans hsp0).cell_some HSP.out.2
                  have ls := cell_lt s0
                  have HXW := Lib.hid hxw
                  have c0 := hwk.c0
                  have c1 := hwk.c1
                  have c2 := hwk.c2
                  have c3 := hwk.c3
                  have c4 := hwk.c4
                  have c5 := hwk.c5
                  have c6 := hwk.c6
                  have c7 := hwk.c7
                  have c8 := hwk.c8
                  have c9 := hwk.c9
                  have c10 := hwk.c10
                  have c11 := hwk.c11
                  have c12 := hwk.c12
                  have lw := cell_lt c0
                  obtain ⟨dq, hdq⟩ : ∃ z, z = deepUp k (px, py) q := ⟨_, rfl⟩
                  obtain ⟨dv, hdv⟩ : ∃ z, z = deepC k k.cuts[q] (px, py) := ⟨_, rfl⟩
                  rw [← hdq, ← hdv] at HDS
                  rw [← hdq] at HDL
                  rw [← hdv] at HEQ
                  rw [← hdq]
                  have e9 : (if dq < dv then (dv : Int) else (dq : Int)) = ((max dq dv : Nat) : Int) := by
                    split <;> omega
                  clear hxw hwk hsp0 hx hdq hdv
                  go_wp2_with fail
                  refine (HEQ.out _ HXW.out).mono ?_
                  rintro e w9 ⟨rfl, x9⟩
                  have HXQ := Lib.hid x9
                  clear x9
                  clear c0 c1 c2 c3 c4 c5 c6 c7 c8 c9 c10 c11 c12 lw s0 s1 ls
                  go_wp2_with fail
                  go_roundw
                  case rel => exact ⟨q + 1, by omega, by go_num, by rw [HDS.out], HX8.out.trans HXQ.out⟩
                  case measure => simp [intOf]; omega
                · obtain rfl : q = j := by omega
                  have c12 := ((HWKP.out.ext HX5.out).ext (HX7.out.trans hx)).c12
                  have l12 := cell_lt c12
                  have HXR := Lib.hid (HX7.out.trans hx)
                  have hb := HBX2.out.ext hx
                  have t3 := hb.c3
                  have u3 := hb.f3
                  have lt3 := cell_lt t3
                  have HB9 := Lib.hid hb
                  have HO9 := Lib.hid (HO2.out.ext hx)
                  have HAS := Lib.hid (show wa.heap.size ≤ wr.heap.size from Nat.le_trans HAS1.out hx.bel.size)
                  have HDL := Lib.hid (HDU.out (px, py) q (by rw [HN.out]; exact Nat.le_refl _))
                  have hcc : carvC k (px, py) = -(deepUp k (px, py) q : Int) := by unfold carvC; rw [← HN.out]
                  rw [hcc] at HCS2
                  obtain ⟨dq, hdq⟩ : ∃ z, z = deepUp k (px, py) q := ⟨_, rfl⟩
                  rw [← hdq] at HCS2 HDL
                  rw [← hdq]
                  have hdl := HDL.out
                  have wn : IntKind.i64.wrap (-(dq : Int)) = -(dq : Int) := IntWalk.i64_in _ (by omega)
                  clear hb hx hcc hdq hdl
                  go_wp2_with (at_builtin; refine EK.app (K := intK) (B := wa.heap.size) (xs := (carvL k fx fy p W' H').take (y * W' + x)) rfl (.tmp 122) (.tmp 125) rfl wr.heap.size 1 (-(dq : Int)) rfl rfl (fun i u hu => cell_new hu) (HO9.out.ext ((Ext.refl _).alloc _)) (Nat.le_trans HAS.out ((Ext.refl _).alloc _).bel.size) (by rw [List.length_take, HCL.out]; omega) ?_; intro v' w8 o8 b8 g8; obtain ⟨Av8, kv8, cv8, rfl⟩ := o8.shape; have HO8 := Lib.hid o8; have HB8 := Lib.hid b8; have g9 : World.grownBy (wr.alloc (.cells #[.int .i64 (-(dq : Int))] 3)) w8 (Value.slice Av kv cv).ownBlock := g8; have hb8 := (HB9.out.ext ((Ext.refl _).alloc (.cells #[.int .i64 (-(dq : Int))] 3))).grown g9 (fun r e => by have h1 := (HO9.out.lt r e).1; have h2 := HSZ.out; have h3 := HBS.out; omega); have t8 := hb8.c3; have u8 := hb8.f3; have lt8 := cell_lt t8; have HBX8 := Lib.hid hb8; clear o8 b8 g8 g9 hb8)
                  go_roundw
                  case rel =>
                    refine ⟨x + 1, by omega, by go_num, ⟨_, HBX8.out.put3 _, ?_⟩, ?_, ?_⟩
                    · have := HO8.out.kept (grown_set w8 bs 3 (.slice Av8 kv8 cv8)) (.inr fun e => by have h1 := (HO8.out.lt _ e).1; have h2 := HSZ.out; have h3 := HBS.out; omega)
                      rw [← HCS2.out] at this
                      exact this
                    · exact (((HXR.out.alloc (.cells #[.int .i64 (-(dq : Int))] 3)).below HB8.out (by have h2 := HSZ.out; have h3 := HBS.out; omega)).setCell (p := ⟨bs, 3, none⟩) (by rw [HBS.out]; exact Nat.le_refl _) _)
                    · exact Nat.le_trans HAS.out (Nat.le_trans ((Ext.refl wr).alloc _).bel.size (Nat.le_trans HB8.out.size (grown_set w8 bs 3 _).size))
                  case measure => simp [intOf]; omega
            · obtain rfl : x = W' := by omega
              go_wp2_with fail
              go_roundw
              case rel => exact ⟨y + 1, by omega, by go_num, ⟨_, HBX2.out, by rw [Nat.succ_mul]; exact HO2.out⟩, HX7.out, HAS1.out⟩
              case measure => simp [intOf]; omega
        · obtain rfl : y = H' := by omega
          obtain ⟨Av, kv, cv, rfl⟩ := HO.out.shape
          have hbx := HBX.out
          have t0 := hbx.c0
          have t1 := hbx.c1
          have t2 := hbx.c2
          have t3 := hbx.c3
          have lt0 := cell_lt t0
          have hxw := HX5.out.trans HX6.out
          have HXF := Lib.hid (HXP.out.trans hxw)
          have hrx := HRP.out.ext hxw
          have r0 := hrx.c0
          have r1 := hrx.c1
          have r2 := hrx.c2
          have r3 := hrx.c3
          have f0 := hrx.f0
          have f1 := hrx.f1
          have f2 := hrx.f2
          have f3 := hrx.f3
          have lr := cell_lt r0
          have HRX := Lib.hid hrx
          clear hrx hbx hxw
          have HPZ := Lib.hid (show w.heap.size + 1 + 1 < wa.heap.size by
            have h1 := cell_lt HRP.out.c0
            have h2 := HX5.out.bel.size
            have h3 := HSZ.out
            have h4 := HBS.out
            omega)
          have HTK := Lib.hid (show (carvL k fx fy p W' y).take (y * W') = carvL k fx fy p W' y from List.take_of_length_le (by rw [HCL.out, HNE.out, Nat.mul_comm]; exact Nat.le_refl _))
          go_wp2_with fail
          have hp := HRX.out.put (.int .i64 (W' : Int)) (.int .i64 (y : Int)) (.int .i64 p) (.slice Av kv cv)
          have hwb : w.heap.size ≤ w.heap.size + 1 + 1 := by omega
          have hx4 : Ext w ((((wr.setCell ⟨w.heap.size + 1 + 1, 0, none⟩ (.int .i64 (W' : Int))).setCell ⟨w.heap.size + 1 + 1, 1, none⟩ (.int .i64 (y : Int))).setCell ⟨w.heap.size + 1 + 1, 2, none⟩ (.int .i64 p)).setCell ⟨w.heap.size + 1 + 1, 3, none⟩ (.slice Av kv cv)) :=
            (((HXF.out.setCell (p := ⟨w.heap.size + 1 + 1, 0, none⟩) hwb _).setCell (p := ⟨w.heap.size + 1 + 1, 1, none⟩) hwb _).setCell (p := ⟨w.heap.size + 1 + 1, 2, none⟩) hwb _).setCell (p := ⟨w.heap.size + 1 + 1, 3, none⟩) hwb _
          have HOF := Lib.hid ((HO.out.kept (grown_put4 wr (w.heap.size + 1 + 1) (.int .i64 (W' : Int)) (.int .i64 (y : Int)) (.int .i64 p) (.slice Av kv cv)) (.inr fun e => by have h1 := (HO.out.lt _ e).1; have h2 := HPZ.out; omega)).mono (show w.heap.size ≤ wa.heap.size by have h2 := HPZ.out; omega))
          have HX4' := Lib.hid hx4
          rw [HTK.out] at HOF
          clear hx4 hwb r0 r1 r2 r3 f0 f1 f2 f3 lr t0 t1 t2 t3 lt0
          generalize ((((wr.setCell ⟨w.heap.size + 1 + 1, 0, none⟩ (.int .i64 (W' : Int))).setCell ⟨w.heap.size + 1 + 1, 1, none⟩ (.int .i64 (y : Int))).setCell ⟨w.heap.size + 1 + 1, 2, none⟩ (.int .i64 p)).setCell ⟨w.heap.size + 1 + 1, 3, none⟩ (.slice Av kv cv)) = WF at *
          have q0 := hp.c0
          have q1 := hp.c1
          have q2 := hp.c2
          have q3 := hp.c3
          refine bodyPost_ret (v := .tuple #[surfV (W' : Int) (y : Int) p (.slice Av kv cv), .int .i64 0]) (by simp [results, Try.results48, go_sem, q0, q1, q2, q3]) rfl ?_
          have e1 : ∀ z, ifOk (carveE k fx fy p (W' : Int) (y : Int)) z = z := fun z => if_pos HZE.out
          rw [e1, e1, e1, HZE.out, HZL.out]
          exact ⟨_, rfl, HOF.out, HX4'.out⟩
end Go.Proofs.Ytlljhimaopnbfaa
