/- light.Carve. Conditions: the cuts read as a list. -/
import Derived.Test.YtlljhimaopnbfaaLProf
import Derived.Test.YtlljhimaopnbfaaLBox
import Derived.Test.YtlljhimaopnbfaaLFrom
import Derived.Deep.Cut
namespace Go.Proofs.Ytlljhimaopnbfaa
open Go.RowKit

theorem EK.Is.butC {α : Type} {K : EK α} {w w' : World} {D : List Nat} {v : Value} {xs : List α} (h : K.Is w v xs) (x : But D w w') (hd : ∀ b o n c, v = .slice (some ⟨b, o, none⟩) n c → b ∉ D) : K.Is w' v xs := by
  obtain ⟨A, c, rfl, h0, hc, hr⟩ := h
  refine ⟨A, c, rfl, h0, hc, fun j hj => ?_⟩
  obtain ⟨b, o, rfl, hb, hcell⟩ := hr j hj
  exact ⟨b, o, rfl, Nat.lt_of_lt_of_le hb x.size, fun i u hu => x.cell (hcell i u hu) (hd _ _ _ _ rfl)⟩
theorem min_deep {a b c : Nat} (h : c = max a b) : min (-(a : Int)) (-(b : Int)) = -(c : Int) := by omega
/-- Profiles as elements. -/
def profK : EK (Option Addr × Nat × Nat) := ⟨142, 141, 1, fun x => [.slice x.1 x.2.1 x.2.2], .slice none 0 0, 24, Try.underlying141, by kernel_rfl, rfl, by decide, by decide, fun _ => rfl, by simp [Value.oneCell']⟩
/-- A work in a box. -/
structure WkC (k : WkT) (sv : Value) (b : Nat) (W : World) : Prop where
  c0 : W.cell? ⟨b, 0, none⟩ = some (.int .i64 k.tip)
  c1 : W.cell? ⟨b, 1, none⟩ = some (.int .i64 k.num)
  c2 : W.cell? ⟨b, 2, none⟩ = some (.int .i64 k.den)
  c3 : W.cell? ⟨b, 3, none⟩ = some (.int .i64 k.bite)
  c4 : W.cell? ⟨b, 4, none⟩ = some (.int .i64 k.slack)
  c12 : W.cell? ⟨b, 12, none⟩ = some sv
theorem WkC.ext {k : WkT} {sv : Value} {b : Nat} {W W' : World} (h : WkC k sv b W) (x : Ext W W') : WkC k sv b W' :=
  ⟨x.cell_some h.c0, x.cell_some h.c1, x.cell_some h.c2, x.cell_some h.c3, x.cell_some h.c4, x.cell_some h.c12⟩
theorem WkC.new (k : WkT) (sv : Value) (w : World) : WkC k sv w.heap.size (w.alloc (.cells #[.int .i64 k.tip, .int .i64 k.num, .int .i64 k.den, .int .i64 k.bite, .int .i64 k.slack, .int .i64 k.wall, .int .i64 k.deepest, .int .i64 k.play, .int .i64 k.fx, .int .i64 k.fy, .int .i64 k.fh, .int .i64 k.fd, sv] 79)) :=
  ⟨cell_new rfl, cell_new rfl, cell_new rfl, cell_new rfl, cell_new rfl, cell_new rfl⟩
/-- A surface and an error are answered. -/
def CarvRet (w : World) (W H P er : Int) (hs : List Int) (e : Ending) (w' : World) : Prop := ∃ v, e = .returned (.tuple #[surfV W H P v, .int .i64 er]) ∧ intK.Own w.heap.size w' v hs ∧ Ext w w'
theorem carvRet_no {w W : World} {k : WkT} {fx fy p Wd Ht er : Int} (hE : carveE k fx fy p Wd Ht = er) (h : er ≠ 0) (x : Ext w W) : CarvRet w (ifOk (carveE k fx fy p Wd Ht) Wd) (ifOk (carveE k fx fy p Wd Ht) Ht) (ifOk (carveE k fx fy p Wd Ht) p) (carveE k fx fy p Wd Ht) (carveL k fx fy p Wd Ht) (.returned (.tuple #[surfV 0 0 0 (.slice none 0 0), .int .i64 er])) W := by
  have e1 : ∀ z, ifOk (carveE k fx fy p Wd Ht) z = 0 := fun z => if_neg (by rw [hE]; exact h)
  have e2 : carveL k fx fy p Wd Ht = [] := if_neg (by rw [hE]; exact h)
  rw [e1, e1, e1, e2, hE]
  exact ⟨_, rfl, EK.Own.nil _ _, x⟩

set_option maxRecDepth 100000 in
set_option maxHeartbeats 16000000 in
theorem Carve_any (k : WkT) (v : Value) (fx fy p Wd Ht : Int) (w : World) (hI : CutsIs w v k.cuts) :
    Calls Try.prog 47 #[k.val v, V2 fx fy, .int .i64 p, .int .i64 Wd, .int .i64 Ht] w (CarvRet w (ifOk (carveE k fx fy p Wd Ht) Wd) (ifOk (carveE k fx fy p Wd Ht) Ht) (ifOk (carveE k fx fy p Wd Ht) p) (carveE k fx fy p Wd Ht) (carveL k fx fy p Wd Ht)) := by
  have HII := Lib.hid fun (W : World) (x : Ext w W) => hI.ext x
  have HCK := Lib.hid fun (W : World) (x : Ext w W) => check_any k v W (hI.ext x)
  obtain ⟨A, c, rfl, hA0, ⟨hc1, hc2⟩, hat⟩ := cutsIs_at hI
  obtain ⟨n, hn⟩ : ∃ n, n = k.cuts.length := ⟨_, rfl⟩
  rw [← hn] at HCK hc1 HII ⊢
  have HN := Lib.hid hn
  have HAT := Lib.hid hat
  have HNO := Lib.hid fun (er : Int) (W : World) (hE : carveE k fx fy p Wd Ht = er) (h : er ≠ 0) (x : Ext w W) => carvRet_no hE h x
  have hn63 : n ≤ 9223372036854775807 := by unfold maxLen at hc2; omega
  clear hI hat hn hc1 hc2 hA0
  have X0 := Lib.hid (show Ext w (((w.alloc (.cells #[.int .i64 k.tip, .int .i64 k.num, .int .i64 k.den, .int .i64 k.bite, .int .i64 k.slack, .int .i64 k.wall, .int .i64 k.deepest, .int .i64 k.play, .int .i64 k.fx, .int .i64 k.fy, .int .i64 k.fh, .int .i64 k.fd, .slice A n c] 79)).alloc (.cells #[.int .i64 fx, .int .i64 fy] 76)).alloc (.cells #[.int .i64 0, .int .i64 0, .int .i64 0, .slice none 0 0] 37)) from by (repeat' (first | with_reducible exact Ext.refl _ | with_reducible apply Ext.alloc | with_reducible apply Ext.drew | with_reducible apply Ext.drewN | with_reducible refine Ext.setCell ?_ ?_ _ | with_reducible apply Ext.step | with_reducible assumption | with_reducible exact Nat.le_refl _ | (simp; done) | (simp; omega))))
  go_enter Try.func47, Try.ntmps47
  go_wp2_with fail
  refine (HCK.out _ X0.out).mono ?_
  rintro e w1 ⟨rfl, x1⟩
  have HX1 := Lib.hid (X0.out.trans x1)
  have HWK := Lib.hid ((((WkC.new k (.slice A n c) w).ext ((Ext.refl _).alloc (.cells #[.int .i64 fx, .int .i64 fy] 76))).ext ((Ext.refl _).alloc (.cells #[.int .i64 0, .int .i64 0, .int .i64 0, .slice none 0 0] 37))).ext x1)
  have s0 : w1.cell? ⟨w.heap.size + 1, 0, none⟩ = some (.int .i64 fx) := x1.cell_some (by go_cell)
  have s1 : w1.cell? ⟨w.heap.size + 1, 1, none⟩ = some (.int .i64 fy) := x1.cell_some (by go_cell)
  have HRB := Lib.hid (show ArBox w1 (w.heap.size + 1 + 1) (.int .i64 0) (.int .i64 0) (.int .i64 0) (.slice none 0 0) from by
    have := (ArBox.new ((w.alloc (.cells #[.int .i64 k.tip, .int .i64 k.num, .int .i64 k.den, .int .i64 k.bite, .int .i64 k.slack, .int .i64 k.wall, .int .i64 k.deepest, .int .i64 k.play, .int .i64 k.fx, .int .i64 k.fy, .int .i64 k.fh, .int .i64 k.fd, .slice A n c] 79)).alloc (.cells #[.int .i64 fx, .int .i64 fy] 76)) (.int .i64 0) (.int .i64 0) (.int .i64 0) (.slice none 0 0)).ext x1
    simpa using this)
  have HS := Lib.hid (And.intro s0 s1)
  clear x1 s0 s1 X0
  cases hwb : workB k
  · have hwe : workE k = 51 := if_neg (by rw [hwb]; exact Bool.false_ne_true)
    have HE := Lib.hid (show carveE k fx fy p Wd Ht = 51 from if_neg (by rw [hwb]; exact Bool.false_ne_true))
    rw [hwe]
    clear hwb hwe
    have hrx := HRB.out
    have r0 := hrx.c0
    have r1 := hrx.c1
    have r2 := hrx.c2
    have r3 := hrx.c3
    have f0 := hrx.f0
    have f1 := hrx.f1
    have f2 := hrx.f2
    have f3 := hrx.f3
    have lr := cell_lt r0
    have HRX := Lib.hid hrx
    have HXE := Lib.hid (HX1.out)
    clear hrx
    go_wp2_with fail
    have hp := HRX.out.put (.int .i64 0) (.int .i64 0) (.int .i64 0) (.slice none 0 0)
    have hwb : w.heap.size ≤ w.heap.size + 1 + 1 := by omega
    have hx4 : Ext w ((((w1.setCell ⟨w.heap.size + 1 + 1, 0, none⟩ (.int .i64 0)).setCell ⟨w.heap.size + 1 + 1, 1, none⟩ (.int .i64 0)).setCell ⟨w.heap.size + 1 + 1, 2, none⟩ (.int .i64 0)).setCell ⟨w.heap.size + 1 + 1, 3, none⟩ (.slice none 0 0)) :=
      (((HXE.out.setCell (p := ⟨w.heap.size + 1 + 1, 0, none⟩) hwb _).setCell (p := ⟨w.heap.size + 1 + 1, 1, none⟩) hwb _).setCell (p := ⟨w.heap.size + 1 + 1, 2, none⟩) hwb _).setCell (p := ⟨w.heap.size + 1 + 1, 3, none⟩) hwb _
    have HX4 := Lib.hid hx4
    clear hx4 hwb r0 r1 r2 r3 f0 f1 f2 f3 lr
    generalize ((((w1.setCell ⟨w.heap.size + 1 + 1, 0, none⟩ (.int .i64 0)).setCell ⟨w.heap.size + 1 + 1, 1, none⟩ (.int .i64 0)).setCell ⟨w.heap.size + 1 + 1, 2, none⟩ (.int .i64 0)).setCell ⟨w.heap.size + 1 + 1, 3, none⟩ (.slice none 0 0)) = WF at *
    have q0 := hp.c0
    have q1 := hp.c1
    have q2 := hp.c2
    have q3 := hp.c3
    refine bodyPost_ret (v := .tuple #[surfV 0 0 0 (.slice none 0 0), .int .i64 51]) (by simp [results, Try.results47, go_sem, q0, q1, q2, q3]) rfl ?_
    exact HNO.out 51 _ HE.out (by decide) HX4.out
  have hwe : workE k = 0 := if_pos hwb
  rw [hwe]
  have HWB := Lib.hid hwb
  have HCE := Lib.hid (show carveE k fx fy p Wd Ht = if argsB fx fy p Wd Ht && lowB k then (if endB fx fy p Wd Ht then 0 else 6) else 2 from if_pos hwb)
  obtain ⟨htb, -, h16, hcut⟩ := workB_iff.1 hwb
  obtain ⟨⟨ht1, ht2⟩, ⟨hn1, hn2⟩, ⟨hd1, hd2⟩, -, ⟨hb1, hb2⟩, hsl1, hsl2⟩ := toolB_iff.1 htb
  rw [← HN.out] at h16
  have HTB := Lib.hid htb
  have HCU := Lib.hid hcut
  have HTN := Lib.hid (And.intro (And.intro ht1 ht2) (And.intro (And.intro hn1 hn2) (And.intro hd1 hd2)))
  clear hwb hwe htb hcut ht1 ht2 hn1 hn2 hd1 hd2 hb1 hb2 hsl1 hsl2
  have s0 := HS.out.1
  have s1 := HS.out.2
  have ls := cell_lt s0
  cases h1 : (inB (-10000) 10000 fx && inB (-10000) 10000 fy)
  · have HE := Lib.hid (show carveE k fx fy p Wd Ht = 2 by rw [HCE.out, show argsB fx fy p Wd Ht = false by unfold argsB; rw [h1]; simp]; rfl)
    have HG1 := Lib.hid fun (b : Nat) (W : World) c0 c1 => lfrom_two b fx fy (-10000) 10000 2 W c0 c1
    rw [h1] at HG1
    clear h1
    go_wp2_with fail
    refine (HG1.out _ _ (by go_cell) (by go_cell)).mono ?_
    rintro e w2 ⟨rfl, x2⟩
    have HX2 := Lib.hid (show Ext w1 w2 from Ext.trans (by (repeat' (first | with_reducible exact Ext.refl _ | with_reducible apply Ext.alloc | with_reducible apply Ext.drew | with_reducible apply Ext.drewN | with_reducible refine Ext.setCell ?_ ?_ _ | with_reducible apply Ext.step | with_reducible assumption | with_reducible exact Nat.le_refl _ | (simp; done) | (simp; omega)))) x2)
    clear x2 s0 s1 ls
    have hrx := HRB.out.ext HX2.out
    have r0 := hrx.c0
    have r1 := hrx.c1
    have r2 := hrx.c2
    have r3 := hrx.c3
    have f0 := hrx.f0
    have f1 := hrx.f1
    have f2 := hrx.f2
    have f3 := hrx.f3
    have lr := cell_lt r0
    have HRX := Lib.hid hrx
    have HXE := Lib.hid (HX1.out.trans HX2.out)
    clear hrx
    go_wp2_with fail
    have hp := HRX.out.put (.int .i64 0) (.int .i64 0) (.int .i64 0) (.slice none 0 0)
    have hwb : w.heap.size ≤ w.heap.size + 1 + 1 := by omega
    have hx4 : Ext w ((((w2.setCell ⟨w.heap.size + 1 + 1, 0, none⟩ (.int .i64 0)).setCell ⟨w.heap.size + 1 + 1, 1, none⟩ (.int .i64 0)).setCell ⟨w.heap.size + 1 + 1, 2, none⟩ (.int .i64 0)).setCell ⟨w.heap.size + 1 + 1, 3, none⟩ (.slice none 0 0)) :=
      (((HXE.out.setCell (p := ⟨w.heap.size + 1 + 1, 0, none⟩) hwb _).setCell (p := ⟨w.heap.size + 1 + 1, 1, none⟩) hwb _).setCell (p := ⟨w.heap.size + 1 + 1, 2, none⟩) hwb _).setCell (p := ⟨w.heap.size + 1 + 1, 3, none⟩) hwb _
    have HX4 := Lib.hid hx4
    clear hx4 hwb r0 r1 r2 r3 f0 f1 f2 f3 lr
    generalize ((((w2.setCell ⟨w.heap.size + 1 + 1, 0, none⟩ (.int .i64 0)).setCell ⟨w.heap.size + 1 + 1, 1, none⟩ (.int .i64 0)).setCell ⟨w.heap.size + 1 + 1, 2, none⟩ (.int .i64 0)).setCell ⟨w.heap.size + 1 + 1, 3, none⟩ (.slice none 0 0)) = WF at *
    have q0 := hp.c0
    have q1 := hp.c1
    have q2 := hp.c2
    have q3 := hp.c3
    refine bodyPost_ret (v := .tuple #[surfV 0 0 0 (.slice none 0 0), .int .i64 2]) (by simp [results, Try.results47, go_sem, q0, q1, q2, q3]) rfl ?_
    exact HNO.out 2 _ HE.out (by decide) HX4.out
  cases h2 : inB 1 100 p
  · have HE := Lib.hid (show carveE k fx fy p Wd Ht = 2 by rw [HCE.out, show argsB fx fy p Wd Ht = false by unfold argsB; rw [h2]; simp]; rfl)
    have HG1 := Lib.hid fun (b : Nat) (W : World) c0 c1 => lfrom_two b fx fy (-10000) 10000 2 W c0 c1
    have HG2 := Lib.hid fun (b : Nat) (W : World) c0 => lfrom_one b p 1 100 1 W c0
    rw [h1] at HG1
    rw [h2] at HG2
    clear h1 h2
    go_wp2_with fail
    refine (HG1.out _ _ (by go_cell) (by go_cell)).mono ?_
    rintro e w2 ⟨rfl, x2⟩
    have HX2 := Lib.hid (show Ext w1 w2 from Ext.trans (by (repeat' (first | with_reducible exact Ext.refl _ | with_reducible apply Ext.alloc | with_reducible apply Ext.drew | with_reducible apply Ext.drewN | with_reducible refine Ext.setCell ?_ ?_ _ | with_reducible apply Ext.step | with_reducible assumption | with_reducible exact Nat.le_refl _ | (simp; done) | (simp; omega)))) x2)
    clear x2 s0 s1 ls
    go_wp2_with fail
    refine (HG2.out _ _ (by go_cell)).mono ?_
    rintro e w3 ⟨rfl, x3⟩
    have HX3 := Lib.hid (show Ext w1 w3 from HX2.out.trans (Ext.trans (by (repeat' (first | with_reducible exact Ext.refl _ | with_reducible apply Ext.alloc | with_reducible apply Ext.drew | with_reducible apply Ext.drewN | with_reducible refine Ext.setCell ?_ ?_ _ | with_reducible apply Ext.step | with_reducible assumption | with_reducible exact Nat.le_refl _ | (simp; done) | (simp; omega)))) x3))
    clear x3
    have hrx := HRB.out.ext HX3.out
    have r0 := hrx.c0
    have r1 := hrx.c1
    have r2 := hrx.c2
    have r3 := hrx.c3
    have f0 := hrx.f0
    have f1 := hrx.f1
    have f2 := hrx.f2
    have f3 := hrx.f3
    have lr := cell_lt r0
    have HRX := Lib.hid hrx
    have HXE := Lib.hid (HX1.out.trans HX3.out)
    clear hrx
    go_wp2_with fail
    have hp := HRX.out.put (.int .i64 0) (.int .i64 0) (.int .i64 0) (.slice none 0 0)
    have hwb : w.heap.size ≤ w.heap.size + 1 + 1 := by omega
    have hx4 : Ext w ((((w3.setCell ⟨w.heap.size + 1 + 1, 0, none⟩ (.int .i64 0)).setCell ⟨w.heap.size + 1 + 1, 1, none⟩ (.int .i64 0)).setCell ⟨w.heap.size + 1 + 1, 2, none⟩ (.int .i64 0)).setCell ⟨w.heap.size + 1 + 1, 3, none⟩ (.slice none 0 0)) :=
      (((HXE.out.setCell (p := ⟨w.heap.size + 1 + 1, 0, none⟩) hwb _).setCell (p := ⟨w.heap.size + 1 + 1, 1, none⟩) hwb _).setCell (p := ⟨w.heap.size + 1 + 1, 2, none⟩) hwb _).setCell (p := ⟨w.heap.size + 1 + 1, 3, none⟩) hwb _
    have HX4 := Lib.hid hx4
    clear hx4 hwb r0 r1 r2 r3 f0 f1 f2 f3 lr
    generalize ((((w3.setCell ⟨w.heap.size + 1 + 1, 0, none⟩ (.int .i64 0)).setCell ⟨w.heap.size + 1 + 1, 1, none⟩ (.int .i64 0)).setCell ⟨w.heap.size + 1 + 1, 2, none⟩ (.int .i64 0)).setCell ⟨w.heap.size + 1 + 1, 3, none⟩ (.slice none 0 0)) = WF at *
    have q0 := hp.c0
    have q1 := hp.c1
    have q2 := hp.c2
    have q3 := hp.c3
    refine bodyPost_ret (v := .tuple #[surfV 0 0 0 (.slice none 0 0), .int .i64 2]) (by simp [results, Try.results47, go_sem, q0, q1, q2, q3]) rfl ?_
    exact HNO.out 2 _ HE.out (by decide) HX4.out
  cases h3 : (inB 2 24 Wd && inB 2 24 Ht)
  · have HE := Lib.hid (show carveE k fx fy p Wd Ht = 2 by rw [HCE.out, show argsB fx fy p Wd Ht = false by unfold argsB; rw [h3]; simp]; rfl)
    have HG1 := Lib.hid fun (b : Nat) (W : World) c0 c1 => lfrom_two b fx fy (-10000) 10000 2 W c0 c1
    have HG2 := Lib.hid fun (b : Nat) (W : World) c0 => lfrom_one b p 1 100 1 W c0
    have HG3 := Lib.hid fun (b : Nat) (W : World) c0 c1 => lfrom_two b Wd Ht 2 24 2 W c0 c1
    rw [h1] at HG1
    rw [h2] at HG2
    rw [h3] at HG3
    clear h1 h2 h3
    go_wp2_with fail
    refine (HG1.out _ _ (by go_cell) (by go_cell)).mono ?_
    rintro e w2 ⟨rfl, x2⟩
    have HX2 := Lib.hid (show Ext w1 w2 from Ext.trans (by (repeat' (first | with_reducible exact Ext.refl _ | with_reducible apply Ext.alloc | with_reducible apply Ext.drew | with_reducible apply Ext.drewN | with_reducible refine Ext.setCell ?_ ?_ _ | with_reducible apply Ext.step | with_reducible assumption | with_reducible exact Nat.le_refl _ | (simp; done) | (simp; omega)))) x2)
    clear x2 s0 s1 ls
    go_wp2_with fail
    refine (HG2.out _ _ (by go_cell)).mono ?_
    rintro e w3 ⟨rfl, x3⟩
    have HX3 := Lib.hid (show Ext w1 w3 from HX2.out.trans (Ext.trans (by (repeat' (first | with_reducible exact Ext.refl _ | with_reducible apply Ext.alloc | with_reducible apply Ext.drew | with_reducible apply Ext.drewN | with_reducible refine Ext.setCell ?_ ?_ _ | with_reducible apply Ext.step | with_reducible assumption | with_reducible exact Nat.le_refl _ | (simp; done) | (simp; omega)))) x3))
    clear x3
    go_wp2_with fail
    refine (HG3.out _ _ (by go_cell) (by go_cell)).mono ?_
    rintro e w4 ⟨rfl, x4⟩
    have HX4 := Lib.hid (show Ext w1 w4 from HX3.out.trans (Ext.trans (by (repeat' (first | with_reducible exact Ext.refl _ | with_reducible apply Ext.alloc | with_reducible apply Ext.drew | with_reducible apply Ext.drewN | with_reducible refine Ext.setCell ?_ ?_ _ | with_reducible apply Ext.step | with_reducible assumption | with_reducible exact Nat.le_refl _ | (simp; done) | (simp; omega)))) x4))
    clear x4
    have hrx := HRB.out.ext HX4.out
    have r0 := hrx.c0
    have r1 := hrx.c1
    have r2 := hrx.c2
    have r3 := hrx.c3
    have f0 := hrx.f0
    have f1 := hrx.f1
    have f2 := hrx.f2
    have f3 := hrx.f3
    have lr := cell_lt r0
    have HRX := Lib.hid hrx
    have HXE := Lib.hid (HX1.out.trans HX4.out)
    clear hrx
    go_wp2_with fail
    have hp := HRX.out.put (.int .i64 0) (.int .i64 0) (.int .i64 0) (.slice none 0 0)
    have hwb : w.heap.size ≤ w.heap.size + 1 + 1 := by omega
    have hx4 : Ext w ((((w4.setCell ⟨w.heap.size + 1 + 1, 0, none⟩ (.int .i64 0)).setCell ⟨w.heap.size + 1 + 1, 1, none⟩ (.int .i64 0)).setCell ⟨w.heap.size + 1 + 1, 2, none⟩ (.int .i64 0)).setCell ⟨w.heap.size + 1 + 1, 3, none⟩ (.slice none 0 0)) :=
      (((HXE.out.setCell (p := ⟨w.heap.size + 1 + 1, 0, none⟩) hwb _).setCell (p := ⟨w.heap.size + 1 + 1, 1, none⟩) hwb _).setCell (p := ⟨w.heap.size + 1 + 1, 2, none⟩) hwb _).setCell (p := ⟨w.heap.size + 1 + 1, 3, none⟩) hwb _
    have HX4 := Lib.hid hx4
    clear hx4 hwb r0 r1 r2 r3 f0 f1 f2 f3 lr
    generalize ((((w4.setCell ⟨w.heap.size + 1 + 1, 0, none⟩ (.int .i64 0)).setCell ⟨w.heap.size + 1 + 1, 1, none⟩ (.int .i64 0)).setCell ⟨w.heap.size + 1 + 1, 2, none⟩ (.int .i64 0)).setCell ⟨w.heap.size + 1 + 1, 3, none⟩ (.slice none 0 0)) = WF at *
    have q0 := hp.c0
    have q1 := hp.c1
    have q2 := hp.c2
    have q3 := hp.c3
    refine bodyPost_ret (v := .tuple #[surfV 0 0 0 (.slice none 0 0), .int .i64 2]) (by simp [results, Try.results47, go_sem, q0, q1, q2, q3]) rfl ?_
    exact HNO.out 2 _ HE.out (by decide) HX4.out
  have HAB := Lib.hid (show argsB fx fy p Wd Ht = true by unfold argsB; rw [h1, h2, h3]; rfl)
  have HG1 := Lib.hid fun (b : Nat) (W : World) c0 c1 => lfrom_two b fx fy (-10000) 10000 2 W c0 c1
  have HG2 := Lib.hid fun (b : Nat) (W : World) c0 => lfrom_one b p 1 100 1 W c0
  have HG3 := Lib.hid fun (b : Nat) (W : World) c0 c1 => lfrom_two b Wd Ht 2 24 2 W c0 c1
  rw [h1] at HG1
  rw [h2] at HG2
  rw [h3] at HG3
  clear h1 h2 h3
  go_wp2_with fail
  refine (HG1.out _ _ (by go_cell) (by go_cell)).mono ?_
  rintro e w2 ⟨rfl, x2⟩
  have HX2 := Lib.hid (show Ext w1 w2 from Ext.trans (by (repeat' (first | with_reducible exact Ext.refl _ | with_reducible apply Ext.alloc | with_reducible apply Ext.drew | with_reducible apply Ext.drewN | with_reducible refine Ext.setCell ?_ ?_ _ | with_reducible apply Ext.step | with_reducible assumption | with_reducible exact Nat.le_refl _ | (simp; done) | (simp; omega)))) x2)
  clear x2
  go_wp2_with fail
  refine (HG2.out _ _ (by go_cell)).mono ?_
  rintro e w3 ⟨rfl, x3⟩
  have HX3 := Lib.hid (show Ext w1 w3 from HX2.out.trans (Ext.trans (by (repeat' (first | with_reducible exact Ext.refl _ | with_reducible apply Ext.alloc | with_reducible apply Ext.drew | with_reducible apply Ext.drewN | with_reducible refine Ext.setCell ?_ ?_ _ | with_reducible apply Ext.step | with_reducible assumption | with_reducible exact Nat.le_refl _ | (simp; done) | (simp; omega)))) x3))
  clear x3
  go_wp2_with fail
  refine (HG3.out _ _ (by go_cell) (by go_cell)).mono ?_
  rintro e w4 ⟨rfl, x4⟩
  have HX4 := Lib.hid (show Ext w1 w4 from HX3.out.trans (Ext.trans (by (repeat' (first | with_reducible exact Ext.refl _ | with_reducible apply Ext.alloc | with_reducible apply Ext.drew | with_reducible apply Ext.drewN | with_reducible refine Ext.setCell ?_ ?_ _ | with_reducible apply Ext.step | with_reducible assumption | with_reducible exact Nat.le_refl _ | (simp; done) | (simp; omega)))) x4))
  clear x4 s0 s1 ls HG1 HG2 HG3
  have HWK4 := Lib.hid (HWK.out.ext HX4.out)
  have c12 := HWK4.out.c12
  have l12 := cell_lt c12
  go_wp2_with fail
  clear c12 l12
  obtain ⟨⟨⟨p1, p2⟩, p3, p4⟩, ⟨p5, p6⟩, ⟨p7, p8⟩, p9, p10⟩ : ((-10000 ≤ fx ∧ fx ≤ 10000) ∧ -10000 ≤ fy ∧ fy ≤ 10000) ∧ (1 ≤ p ∧ p ≤ 100) ∧ (2 ≤ Wd ∧ Wd ≤ 24) ∧ 2 ≤ Ht ∧ Ht ≤ 24 := by
    have := argsB_iff.1 HAB.out
    exact ⟨⟨this.1, this.2.1⟩, this.2.2.1, this.2.2.2⟩
  go_loopw [56, 13] (fun iv ov wr => ∃ j : Nat, j ≤ n ∧ iv = .int .i64 (j : Int) ∧ (∃ Ts, profK.Own w4.heap.size wr ov Ts ∧ Ts.length = j ∧ ∀ q (h : q < Ts.length) (h' : q < k.cuts.length), intK.Own w4.heap.size wr (picV Ts[q]) (profC k k.cuts[q])) ∧ Hid (∀ q (hq : q < k.cuts.length), q < j → hiC k k.cuts[q] ≤ 100) ∧ Ext w4 wr) (fun iv _ _ => n - (intOf iv).toNat)
  case atStart => exact ⟨0, by omega, rfl, ⟨[], EK.Own.nil _ _, rfl, fun q h => by simp at h⟩, Lib.hid (fun q hq h => by omega), Ext.refl _⟩
  case round =>
    obtain ⟨j, hj, rfl, ⟨Ts, ho, hT, hP⟩, HLW, hx⟩ := hrel
    obtain ⟨Av, kv, cv, rfl⟩ := ho.shape
    have HX := Lib.hid hx
    have HO := Lib.hid ho
    have HT := Lib.hid hT
    have HP := Lib.hid hP
    by_cases hlt : j < n
    · have hjl : j < k.cuts.length := by rw [← HN.out]; exact hlt
      have hji : (j : Int) < (n : Int) := by omega
      obtain ⟨b, o, T, rfl, hb, d0, d1, d2, -⟩ := HAT.out j hjl
      obtain ⟨T1, T2, T3⟩ := T
      simp only at d0
      have x0 := HX1.out.trans (HX4.out.trans hx)
      replace d0 := x0.cell_some d0
      replace d1 := x0.cell_some d1
      replace d2 := x0.cell_some d2
      have ld := cell_lt d0
      have hwk := HWK4.out.ext hx
      have c0 := hwk.c0
      have c1 := hwk.c1
      have c2 := hwk.c2
      have c3 := hwk.c3
      have c4 := hwk.c4
      have lw := cell_lt c0
      have hcb := HCU.out _ (List.getElem_mem hjl)
      obtain ⟨-, y1, y2⟩ := cutB_iff.1 hcb
      obtain ⟨z1, z2⟩ := hi_bd HTB.out hcb
      have HDP := Lib.hid fun W : World => (show Calls Try.prog 59 #[toolV k.tip k.num k.den k.bite k.slack, .int .i64 k.cuts[j].2.1] W fun e w' => e = .returned (.tuple #[.int .i64 (depthLo k.tip k.num k.den k.bite k.slack k.cuts[j].2.1), .int .i64 (hiC k k.cuts[j]), .int .i64 0]) ∧ Ext W w' from by
        have := depth_any k.tip k.num k.den k.bite k.slack k.cuts[j].2.1 W
        have e1 : depthHi k.tip k.num k.den k.bite k.slack k.cuts[j].2.1 = hiC k k.cuts[j] := by
          unfold depthHi
          rw [HTB.out, inB_iff.2 ⟨y1, y2⟩]
          rfl
        have e2 : depthE k.tip k.num k.den k.bite k.slack k.cuts[j].2.1 = 0 := by
          unfold depthE
          rw [HTB.out, inB_iff.2 ⟨y1, y2⟩]
          rfl
        unfold depthV at this
        rwa [e1, e2] at this)
      have HNL := Lib.hid fun (h : 100 < hiC k k.cuts[j]) => (show carveE k fx fy p Wd Ht = 2 from by
        have : lowB k = false := List.all_eq_false.2 ⟨_, List.getElem_mem hjl, by rw [decide_eq_true_eq]; omega⟩
        rw [HCE.out, this, Bool.and_false]
        rfl)
      have HNX := Lib.hid fun (h : ¬ 100 < hiC k k.cuts[j]) => (show ∀ q (hq : q < k.cuts.length), q < j + 1 → hiC k k.cuts[q] ≤ 100 from fun q hq hqj => by
        rcases (by omega : q < j ∨ q = j) with h5 | rfl
        · exact HLW.out q hq h5
        · omega)
      have HPC := Lib.hid (show profC k k.cuts[j] = profL k.tip k.num k.den (hiC k k.cuts[j]).toNat from rfl)
      have HRX0 := Lib.hid (HRB.out.ext (HX4.out.trans hx))
      have HXW := Lib.hid x0
      generalize depthLo k.tip k.num k.den k.bite k.slack k.cuts[j].2.1 = lo at *
      generalize k.cuts[j].2.1 = pr at *
      generalize k.cuts[j].2.2 = cr at *
      obtain ⟨hi, hhi⟩ : ∃ z, z = hiC k k.cuts[j] := ⟨_, rfl⟩
      rw [← hhi] at HDP HNL HNX HPC z1 z2
      have HHI := Lib.hid hhi
      clear hx ho hT hP x0 hwk hcb y1 y2 hhi hb
      go_upto_region 10 with fail
      refine lay_wp (fun W => Ext wr W ∧ W.cell? ⟨wr.heap.size, 1, none⟩ = some (.int .i64 pr)) ⟨by (repeat' (first | with_reducible exact Ext.refl _ | with_reducible apply Ext.alloc | with_reducible apply Ext.drew | with_reducible apply Ext.drewN | with_reducible refine Ext.setCell ?_ ?_ _ | with_reducible apply Ext.step | with_reducible assumption | with_reducible exact Nat.le_refl _ | (simp; done) | (simp; omega))), by go_cell⟩ ?_
      rintro W5 ⟨x5, m1⟩
      have HX5 := Lib.hid x5
      replace c0 := x5.cell_some c0
      replace c1 := x5.cell_some c1
      replace c2 := x5.cell_some c2
      replace c3 := x5.cell_some c3
      replace c4 := x5.cell_some c4
      replace lw := cell_lt c0
      have lm := cell_lt m1
      clear x5 d0 d1 d2 ld
      go_wp2_with fail
      refine (HDP.out _).mono ?_
      rintro e W6 ⟨rfl, x6⟩
      have HX6 := Lib.hid (HX5.out.trans x6)
      replace c0 := x6.cell_some c0
      replace c1 := x6.cell_some c1
      replace c2 := x6.cell_some c2
      replace c3 := x6.cell_some c3
      replace c4 := x6.cell_some c4
      replace lw := cell_lt c0
      clear x6 m1 lm
      by_cases hh : 100 < hi
      · have hh' : decide ((100 : Int) < hi) = true := decide_eq_true hh
        have HE := Lib.hid (HNL.out hh)
        clear hh c0 c1 c2 c3 c4 lw
        have hrx := HRX0.out.ext HX6.out
        have r0 := hrx.c0
        have r1 := hrx.c1
        have r2 := hrx.c2
        have r3 := hrx.c3
        have f0 := hrx.f0
        have f1 := hrx.f1
        have f2 := hrx.f2
        have f3 := hrx.f3
        have lr := cell_lt r0
        have HRX := Lib.hid hrx
        have HXE := Lib.hid (HXW.out.trans HX6.out)
        clear hrx
        go_wp2_with fail
        have hp := HRX.out.put (.int .i64 0) (.int .i64 0) (.int .i64 0) (.slice none 0 0)
        have hwb : w.heap.size ≤ w.heap.size + 1 + 1 := by omega
        have hx4 : Ext w ((((W6.setCell ⟨w.heap.size + 1 + 1, 0, none⟩ (.int .i64 0)).setCell ⟨w.heap.size + 1 + 1, 1, none⟩ (.int .i64 0)).setCell ⟨w.heap.size + 1 + 1, 2, none⟩ (.int .i64 0)).setCell ⟨w.heap.size + 1 + 1, 3, none⟩ (.slice none 0 0)) :=
          (((HXE.out.setCell (p := ⟨w.heap.size + 1 + 1, 0, none⟩) hwb _).setCell (p := ⟨w.heap.size + 1 + 1, 1, none⟩) hwb _).setCell (p := ⟨w.heap.size + 1 + 1, 2, none⟩) hwb _).setCell (p := ⟨w.heap.size + 1 + 1, 3, none⟩) hwb _
        have HXF := Lib.hid hx4
        clear hx4 hwb r0 r1 r2 r3 f0 f1 f2 f3 lr
        generalize ((((W6.setCell ⟨w.heap.size + 1 + 1, 0, none⟩ (.int .i64 0)).setCell ⟨w.heap.size + 1 + 1, 1, none⟩ (.int .i64 0)).setCell ⟨w.heap.size + 1 + 1, 2, none⟩ (.int .i64 0)).setCell ⟨w.heap.size + 1 + 1, 3, none⟩ (.slice none 0 0)) = WF at *
        have q0 := hp.c0
        have q1 := hp.c1
        have q2 := hp.c2
        have q3 := hp.c3
        refine bodyPost_ret (v := .tuple #[surfV 0 0 0 (.slice none 0 0), .int .i64 2]) (by simp [results, Try.results47, go_sem, q0, q1, q2, q3]) rfl ?_
        exact HNO.out 2 _ HE.out (by decide) HXF.out
      have hh' : decide ((100 : Int) < hi) = false := decide_eq_false hh
      have HNX2 := Lib.hid (HNX.out (by omega))
      obtain ⟨N, hNh⟩ : ∃ N : Nat, hi = (N : Int) := ⟨hi.toNat, by omega⟩
      have HPF := Lib.hid fun W : World => profileOf_any k.tip k.num k.den k.bite k.slack N W HTN.out.1 HTN.out.2.1 HTN.out.2.2 (by omega)
      have hpc := HPC.out
      rw [hNh, Int.toNat_natCast] at hpc
      rw [← hpc] at HPF
      subst hNh
      clear hh z1 z2 hpc HPC HNX HNL
      go_wp2_with fail
      refine (HPF.out _).mono ?_
      rintro e W7 ⟨pv, rfl, op, x7⟩
      obtain ⟨Ap, kp, cp, rfl⟩ := op.shape
      have HX7 := Lib.hid (HX6.out.trans x7)
      have HOP := Lib.hid (op.mono (show w4.heap.size ≤ W6.heap.size from (HX.out.trans HX6.out).bel.size))
      have HBB := Lib.hid (show w4.heap.size ≤ W7.heap.size from (HX.out.trans HX7.out).bel.size)
      clear x7 op c0 c1 c2 c3 c4 lw
      go_wp2_with (at_builtin; refine EK.app (K := profK) (B := w4.heap.size) (xs := Ts) rfl (.tmp 72) (.tmp 77) rfl W7.heap.size 1 (Ap, kp, cp) rfl rfl (fun i u hu => cell_new hu) (HO.out.ext (HX7.out.alloc _)) (Nat.le_trans HBB.out ((Ext.refl _).alloc _).bel.size) (by rw [HT.out]; omega) ?_; intro v' w8 o8 b8 g8; obtain ⟨Av8, kv8, cv8, rfl⟩ := o8.shape; have HO8 := Lib.hid o8; have HB8 := Lib.hid b8; have HG8 := Lib.hid g8; clear o8 b8 g8)
      go_roundw
      case rel =>
        refine ⟨j + 1, by omega, by go_num, ⟨_, HO8.out, by simp [HT.out], fun q h h' => ?_⟩, HNX2, (HX.out.trans (HX7.out.alloc _)).below HB8.out (Nat.le_refl _)⟩
        rw [List.length_append, HT.out, List.length_singleton] at h
        rcases (by omega : q < j ∨ q = j) with hq | rfl
        · rw [List.getElem_append_left (by rw [HT.out]; exact hq)]
          have h4 := (HP.out q (by rw [HT.out]; exact hq) h').ext (HX7.out.alloc (.cells #[.slice Ap kp cp] 142))
          exact h4.kept HG8.out (own_ne h4 (HO.out.ext (HX7.out.alloc _)) (by decide))
        · rw [List.getElem_append_right (by rw [HT.out]; exact Nat.le_refl _)]
          simp only [HT.out, Nat.sub_self, List.getElem_singleton]
          have h4 := HOP.out.ext ((Ext.refl W7).alloc (.cells #[.slice Ap kp cp] 142))
          exact h4.kept HG8.out (own_ne h4 (HO.out.ext (HX7.out.alloc _)) (by decide))
      case measure => simp [intOf]; omega
    · obtain rfl : j = n := by omega
      have HLB := Lib.hid (show lowB k = true from List.all_eq_true.2 fun x hm => by
        obtain ⟨q, hq, rfl⟩ := List.getElem_of_mem hm
        exact decide_eq_true (HLW.out q hq (by rw [HN.out]; exact hq)))
      have s0 := (HX4.out.trans hx).cell_some HS.out.1
      have s1 := (HX4.out.trans hx).cell_some HS.out.2
      have ls := cell_lt s0
      obtain ⟨wp, rfl⟩ : ∃ wp, wp = wr := ⟨wr, rfl⟩
      have HXP := Lib.hid (HX1.out.trans (HX4.out.trans hx))
      have HWKP := Lib.hid (HWK4.out.ext hx)
      have HRP := Lib.hid (HRB.out.ext (HX4.out.trans hx))
      have HSP := Lib.hid (And.intro s0 s1)
      have hm1 := mul_bd (show 0 ≤ Wd - 1 by omega) (show Wd - 1 ≤ 23 by omega) (show 0 ≤ p by omega) p6
      have hm2 := mul_bd (show 0 ≤ Ht - 1 by omega) (show Ht - 1 ≤ 23 by omega) (show 0 ≤ p by omega) p6
      have k1 : IntKind.i64.wrap (Wd - 1) = Wd - 1 := IntWalk.i64_in _ (by omega)
      have k2 : IntKind.i64.wrap ((Wd - 1) * p) = (Wd - 1) * p := IntWalk.i64_in _ (by omega)
      have k3 : IntKind.i64.wrap (fx + (Wd - 1) * p) = fx + (Wd - 1) * p := IntWalk.i64_in _ (by omega)
      have k4 : IntKind.i64.wrap (Ht - 1) = Ht - 1 := IntWalk.i64_in _ (by omega)
      have k5 : IntKind.i64.wrap ((Ht - 1) * p) = (Ht - 1) * p := IntWalk.i64_in _ (by omega)
      have k6 : IntKind.i64.wrap (fy + (Ht - 1) * p) = fy + (Ht - 1) * p := IntWalk.i64_in _ (by omega)
      have HEB := Lib.hid (show endB fx fy p Wd Ht = (inB (-10000) 10000 (fx + (Wd - 1) * p) && inB (-10000) 10000 (fy + (Ht - 1) * p)) from rfl)
      have HG4 := Lib.hid fun (b : Nat) (W : World) c0 c1 => lfrom_two b (fx + (Wd - 1) * p) (fy + (Ht - 1) * p) (-10000) 10000 2 W c0 c1
      obtain ⟨ex, hex⟩ : ∃ z, z = fx + (Wd - 1) * p := ⟨_, rfl⟩
      obtain ⟨ey, hey⟩ : ∃ z, z = fy + (Ht - 1) * p := ⟨_, rfl⟩
      cases h4 : (inB (-10000) 10000 (fx + (Wd - 1) * p) && inB (-10000) 10000 (fy + (Ht - 1) * p))
      · have HE := Lib.hid (show carveE k fx fy p Wd Ht = 6 by rw [HCE.out, HAB.out, HLB.out, HEB.out, h4]; rfl)
        rw [h4] at HG4
        clear h4 hm1 hm2 hx ho hT hP
        rw [← hex, ← hey] at HG4
        rw [← hex] at k3
        rw [← hey] at k6
        replace k3 : IntKind.i64.wrap (fx + (Wd - 1) * p) = ex := by rw [← hex]; exact k3
        replace k6 : IntKind.i64.wrap (fy + (Ht - 1) * p) = ey := by rw [← hey]; exact k6
        clear hex hey
        go_wp2_with fail
        refine (HG4.out _ _ (by go_cell) (by go_cell)).mono ?_
        rintro e w5 ⟨rfl, x5⟩
        have HX5 := Lib.hid (show Ext wp w5 from Ext.trans (by (repeat' (first | with_reducible exact Ext.refl _ | with_reducible apply Ext.alloc | with_reducible apply Ext.drew | with_reducible apply Ext.drewN | with_reducible refine Ext.setCell ?_ ?_ _ | with_reducible apply Ext.step | with_reducible assumption | with_reducible exact Nat.le_refl _ | (simp; done) | (simp; omega)))) x5)
        clear x5 s0 s1 ls k1 k2 k3 k4 k5 k6
        have hrx := HRP.out.ext HX5.out
        have r0 := hrx.c0
        have r1 := hrx.c1
        have r2 := hrx.c2
        have r3 := hrx.c3
        have f0 := hrx.f0
        have f1 := hrx.f1
        have f2 := hrx.f2
        have f3 := hrx.f3
        have lr := cell_lt r0
        have HRX := Lib.hid hrx
        have HXE := Lib.hid (HXP.out.trans HX5.out)
        clear hrx
        go_wp2_with fail
        have hp := HRX.out.put (.int .i64 0) (.int .i64 0) (.int .i64 0) (.slice none 0 0)
        have hwb : w.heap.size ≤ w.heap.size + 1 + 1 := by omega
        have hx4 : Ext w ((((w5.setCell ⟨w.heap.size + 1 + 1, 0, none⟩ (.int .i64 0)).setCell ⟨w.heap.size + 1 + 1, 1, none⟩ (.int .i64 0)).setCell ⟨w.heap.size + 1 + 1, 2, none⟩ (.int .i64 0)).setCell ⟨w.heap.size + 1 + 1, 3, none⟩ (.slice none 0 0)) :=
          (((HXE.out.setCell (p := ⟨w.heap.size + 1 + 1, 0, none⟩) hwb _).setCell (p := ⟨w.heap.size + 1 + 1, 1, none⟩) hwb _).setCell (p := ⟨w.heap.size + 1 + 1, 2, none⟩) hwb _).setCell (p := ⟨w.heap.size + 1 + 1, 3, none⟩) hwb _
        have HXF := Lib.hid hx4
        clear hx4 hwb r0 r1 r2 r3 f0 f1 f2 f3 lr
        generalize ((((w5.setCell ⟨w.heap.size + 1 + 1, 0, none⟩ (.int .i64 0)).setCell ⟨w.heap.size + 1 + 1, 1, none⟩ (.int .i64 0)).setCell ⟨w.heap.size + 1 + 1, 2, none⟩ (.int .i64 0)).setCell ⟨w.heap.size + 1 + 1, 3, none⟩ (.slice none 0 0)) = WF at *
        have q0 := hp.c0
        have q1 := hp.c1
        have q2 := hp.c2
        have q3 := hp.c3
        refine bodyPost_ret (v := .tuple #[surfV 0 0 0 (.slice none 0 0), .int .i64 6]) (by simp [results, Try.results47, go_sem, q0, q1, q2, q3]) rfl ?_
        exact HNO.out 6 _ HE.out (by decide) HXF.out
      rw [h4] at HG4 HEB
      have HZE := Lib.hid (show carveE k fx fy p Wd Ht = 0 by rw [HCE.out, HAB.out, HLB.out, HEB.out]; rfl)
      obtain ⟨W', hW'⟩ : ∃ W' : Nat, Wd = (W' : Int) := ⟨Wd.toNat, by omega⟩
      obtain ⟨H', hH'⟩ : ∃ H' : Nat, Ht = (H' : Int) := ⟨Ht.toNat, by omega⟩
      have hN5 := Nat.mul_le_mul (show W' ≤ 24 by omega) (show H' ≤ 24 by omega)
      obtain ⟨N, hNe⟩ : ∃ N, N = W' * H' := ⟨_, rfl⟩
      rw [← hNe] at hN5
      have hwN : IntKind.i64.wrap (Wd * Ht) = (N : Int) := by
        rw [hW', hH', hNe, show (W' : Int) * (H' : Int) = ((W' * H' : Nat) : Int) by simp]
        exact IntWalk.i64_in _ (by omega)
      have HZL := Lib.hid (show carveL k fx fy p Wd Ht = carvL k fx fy p W' H' by
        unfold carveL
        rw [if_pos HZE.out, hW', hH', Int.toNat_natCast, Int.toNat_natCast])
      have HPL := Lib.hid fun (i : Nat) (hi : i < N) => (show lineB [pointC fx fy p W' i] = true from point_line (H := H') (by rw [← hW', ← hH']; exact HAB.out) (by rw [← hW', ← hH']; exact HEB.out) (by rw [← hNe]; exact hi))
      have HPB := Lib.hid fun (i : Nat) (hi : i < N) => point_in (fx := fx) (fy := fy) (p := p) (W := W') (H := H') (i := i) (by rw [← hW', ← hH']; exact HAB.out) (by rw [← hW', ← hH']; exact HEB.out) (by rw [← hNe]; exact hi)
      have HDU := Lib.hid fun (i j : Nat) (hj : j ≤ k.cuts.length) => deepUp_le (k := k) (s := pointC fx fy p W' i) HLB.out hj
      have hmk : ∀ w : World, (Instr.makeSlice 35 (.int .i64 (N : Int)) (.int .i64 (N : Int))).run Try.prog w = .ok (.slice (some ⟨w.heap.size, 0, none⟩) N N) (w.alloc (.cells (madeCells #[.int .i64 0] N) 3)) := fun w =>
        run_make_row' (P := Try.prog) 35 3 (.int .i64 0) 8 Try.underlying35 intInfo rfl .i64 .i64 N (by omega) (by omega) w
      have HPK := Lib.hid (show Ts.length = j from hT)
      have HPO := Lib.hid ho.is
      have HPP := Lib.hid fun q (h : q < Ts.length) (h' : q < k.cuts.length) => (hP q h h').is
      have HWN := Lib.hid (And.intro hW' (And.intro hH' hNe))
      clear h4 hm1 hm2 hx ho hT hP hW' hH' hNe HO HT HP HLW
      rw [← hex, ← hey] at HG4
      rw [← hex] at k3
      rw [← hey] at k6
      replace k3 : IntKind.i64.wrap (fx + (Wd - 1) * p) = ex := by rw [← hex]; exact k3
      replace k6 : IntKind.i64.wrap (fy + (Ht - 1) * p) = ey := by rw [← hey]; exact k6
      clear hex hey
      go_wp2_with fail
      refine (HG4.out _ _ (by go_cell) (by go_cell)).mono ?_
      rintro e w5 ⟨rfl, x5⟩
      have HX5 := Lib.hid (show Ext wp w5 from Ext.trans (by (repeat' (first | with_reducible exact Ext.refl _ | with_reducible apply Ext.alloc | with_reducible apply Ext.drew | with_reducible apply Ext.drewN | with_reducible refine Ext.setCell ?_ ?_ _ | with_reducible apply Ext.step | with_reducible assumption | with_reducible exact Nat.le_refl _ | (simp; done) | (simp; omega)))) x5)
      clear x5 s0 s1 ls k1 k2 k3 k4 k5 k6
      obtain ⟨g, hg⟩ : ∃ g, g = w5.heap.size := ⟨_, rfl⟩
      have HGE := Lib.hid hg
      have hZ := own_zero w5 w5.heap.size N (Nat.le_refl _) (by omega)
      rw [← carvTo_zero (k := k) (fx := fx) (fy := fy) (p := p) (W := W')] at hZ
      have HZ := Lib.hid hZ
      clear hg hZ
      go_wp2_with fail
      refine lay_wp (fun W => intK.Own w5.heap.size W (.slice (some ⟨w5.heap.size, 0, none⟩) N N) (carvTo k fx fy p W' N 0 0) ∧ ArBox W (w5.heap.size + 1) (.int .i64 Wd) (.int .i64 Ht) (.int .i64 p) (.slice (some ⟨w5.heap.size, 0, none⟩) N N) ∧ Ext w5 W) ⟨HZ.out.ext ((Ext.refl _).alloc _), by have := ArBox.new (w5.alloc (.cells (madeCells #[.int .i64 0] N) 3)) (.int .i64 Wd) (.int .i64 Ht) (.int .i64 p) (.slice (some ⟨w5.heap.size, 0, none⟩) N N); rwa [World.size_alloc] at this, by (repeat' (first | with_reducible exact Ext.refl _ | with_reducible apply Ext.alloc | with_reducible apply Ext.drew | with_reducible apply Ext.drewN | with_reducible refine Ext.setCell ?_ ?_ _ | with_reducible apply Ext.step | with_reducible assumption | with_reducible exact Nat.le_refl _ | (simp; done) | (simp; omega)))⟩ ?_
      rw [← HGE.out]
      rintro Wa ⟨oa, ba, xa⟩
      have HOA := Lib.hid oa
      have HBA := Lib.hid ba
      have HXA := Lib.hid (HX5.out.trans xa)
      have c3 := ba.c3
      have l3 := cell_lt c3
      have HSA := Lib.hid (And.intro (HXA.out.cell_some HSP.out.1) (HXA.out.cell_some HSP.out.2))
      have HWA := Lib.hid (HWKP.out.ext HXA.out)
      have HRA := Lib.hid (HRP.out.ext HXA.out)
      have HGL := Lib.hid (show wp.heap.size ≤ g by rw [HGE.out]; exact HX5.out.bel.size)
      have HWW := Lib.hid (show w.heap.size + 1 + 1 < wp.heap.size from cell_lt HRP.out.c0)
      clear oa ba xa hmk HZ
      obtain ⟨hW', hH', hNe⟩ := HWN.out
      have HNE := Lib.hid hNe
      have hW24 : W' ≤ 24 := by omega
      have hW1 : 1 ≤ W' := by omega
      subst hW' hH'
      clear hNe HWN
      go_wp2_with fail
      clear c3 l3
      go_loopw [109] (fun iv wr => ∃ i : Nat, i ≤ N ∧ iv = .int .i64 (i : Int) ∧ intK.Own g wr (.slice (some ⟨g, 0, none⟩) N N) (carvTo k fx fy p W' N i 0) ∧ But [g] Wa wr) (fun iv _ => N - (intOf iv).toNat)
      case atStart => exact ⟨0, by omega, rfl, HOA.out, But.refl _ _⟩
      case round =>
        obtain ⟨i, hi, rfl, ho, hbt⟩ := hrel
        have HO := Lib.hid ho
        have HBT := Lib.hid hbt
        have hgl := HGL.out
        have hww := HWW.out
        by_cases hlt : i < N
        · have hii : (i : Int) < (N : Int) := by omega
          have s0 := hbt.cell HSA.out.1 (by simp; omega)
          have s1 := hbt.cell HSA.out.2 (by simp; omega)
          have ls := cell_lt s0
          clear ho hbt
          go_wp2_with fail
          have y0 := But.cells (D := []) s0 (by simp)
          have y1 := But.cells (D := []) s1 (by simp)
          have hW0 : ¬ W' = 0 := by omega
          have e1 : (i : Int).tmod (W' : Int) = ((i % W' : Nat) : Int) := by rw [Int.tmod_eq_emod_of_nonneg (by omega)]; exact (Int.natCast_emod _ _).symm
          have e2 : (i : Int).tdiv (W' : Int) = ((i / W' : Nat) : Int) := by rw [Int.tdiv_eq_ediv_of_nonneg (by omega)]; exact (Int.natCast_ediv _ _).symm
          have hpb := HPB.out i hlt
          have hpl := HPL.out i hlt
          obtain ⟨px, hpx⟩ : ∃ z, z = fx + ((i % W' : Nat) : Int) * p := ⟨_, rfl⟩
          obtain ⟨py, hpy⟩ : ∃ z, z = fy + ((i / W' : Nat) : Int) * p := ⟨_, rfl⟩
          have hpt : pointC fx fy p W' i = (px, py) := by rw [hpx, hpy]; rfl
          rw [hpt] at hpb hpl
          simp only at hpb
          have q1 : IntKind.i64.wrap ((i : Int).tmod (W' : Int) * p) = ((i % W' : Nat) : Int) * p := by rw [e1]; exact IntWalk.i64_in _ (by omega)
          have q2 : IntKind.i64.wrap (fx + ((i % W' : Nat) : Int) * p) = px := by rw [← hpx]; exact IntWalk.i64_in _ (by omega)
          have q3 : IntKind.i64.wrap ((i : Int).tdiv (W' : Int) * p) = ((i / W' : Nat) : Int) * p := by rw [e2]; exact IntWalk.i64_in _ (by omega)
          have q4 : IntKind.i64.wrap (fy + ((i / W' : Nat) : Int) * p) = py := by rw [← hpy]; exact IntWalk.i64_in _ (by omega)
          have q5 : IntKind.i64.wrap ((i : Int).tdiv (W' : Int)) = (i : Int).tdiv (W' : Int) := by
            rw [e2]
            have hz := Nat.div_le_self i W'
            generalize i / W' = z at hz
            exact IntWalk.i64_in _ (by omega)
          have e3 : (i : Int) % (W' : Int) = ((i % W' : Nat) : Int) := (Int.natCast_emod _ _).symm
          have e4 : (i : Int) / (W' : Int) = ((i / W' : Nat) : Int) := (Int.natCast_ediv _ _).symm
          have r1 : IntKind.i64.wrap ((i : Int) % (W' : Int) * p) = (i : Int) % (W' : Int) * p := by rw [e3]; exact IntWalk.i64_in _ (by omega)
          have r2 : IntKind.i64.wrap (fx + (i : Int) % (W' : Int) * p) = px := by rw [e3, ← hpx]; exact IntWalk.i64_in _ (by omega)
          have r5 : IntKind.i64.wrap ((i : Int) / (W' : Int)) = (i : Int) / (W' : Int) := by
            rw [e4]
            have hz := Nat.div_le_self i W'
            generalize i / W' = z at hz
            exact IntWalk.i64_in _ (by omega)
          have r6 : IntKind.i64.wrap ((i : Int) / (W' : Int) * p) = (i : Int) / (W' : Int) * p := by rw [e4]; exact IntWalk.i64_in _ (by omega)
          have r7 : IntKind.i64.wrap (fy + (i : Int) / (W' : Int) * p) = py := by rw [e4, ← hpy]; exact IntWalk.i64_in _ (by omega)
          have HPT := Lib.hid hpt
          have HPI := Lib.hid hpl
          clear e3 e4
          clear e1 e2 hpb hpl hpx hpy hpt
          refine (wpIn_wide (n := 3)).1 ?_
          refine wpIn_region_steps [] 17 [(0, true), (1, true), (2, true), (3, true), (4, true), (5, true), (6, true), (7, true), (8, true), (9, true), (10, true), (11, true), (12, true), (13, true), (14, true), (15, true), (16, true)] (by kernel_rfl) (by kernel_rfl) ?_
          iterate 17 (refine wpSD_q (by rfl) (fun _ _ _ => trivial) (fun K hK => ?_); go_simp; refine hK _ ?_; clear hK K)
          refine wpSD_nil ?_
          intro W6 x6
          have HX6 := Lib.hid x6
          clear x6 y0 y1 s0 s1 ls q1 q2 q3 q4 q5 r1 r2 r5 r6 r7
          simp only [List.drop_succ_cons, List.drop_zero]
          gi_wp2
          have hWW := HWA.out
          have b12 := (HBT.out.ext HX6.out).cell hWW.c12 (by simp; omega)
          have l12 := cell_lt b12
          go_wp2_with fail
          refine lay_wp (fun W => Ext W6 W ∧ spotK.Is W (.slice (some ⟨W6.heap.size, 0, none⟩) 1 1) [(px, py)]) ⟨by (repeat' (first | with_reducible exact Ext.refl _ | with_reducible apply Ext.alloc | with_reducible apply Ext.drew | with_reducible apply Ext.drewN | with_reducible refine Ext.setCell ?_ ?_ _ | with_reducible apply Ext.step | with_reducible assumption | with_reducible exact Nat.le_refl _ | (simp; done) | (simp; omega))), (EK.Own.lit (K := spotK) (B := 0) W6 #[.int .i64 px, .int .i64 py] [(px, py)] rfl (Nat.zero_le _) (by simp [maxLen])).is⟩ ?_
          rintro W7 ⟨x7, hat7⟩
          have HX7 := Lib.hid x7
          have HAT7 := Lib.hid hat7
          have HB7 := Lib.hid (HBT.out.ext (HX6.out.trans x7))
          have HO7 := Lib.hid (HO.out.ext (HX6.out.trans x7))
          obtain ⟨b7, hb7⟩ : ∃ z, z = W6.heap.size := ⟨_, rfl⟩
          rw [← hb7] at HAT7 ⊢
          have HB7N := Lib.hid (show b7 ≠ g by
            have h1 := HBT.out.size
            have h2 := HX6.out.bel.size
            have h3 : g < Wa.heap.size := (HOA.out.lt g rfl).2
            omega)
          clear x7 hat7 hb7 b12 l12 hWW
          go_loopw [133] (fun iv wr => ∃ q : Nat, q ≤ j ∧ iv = .int .i64 (q : Int) ∧ intK.Own g wr (.slice (some ⟨g, 0, none⟩) N N) (carvTo k fx fy p W' N i q) ∧ But [g] W7 wr) (fun iv _ => j - (intOf iv).toNat)
          case atStart => exact ⟨0, by omega, rfl, HO7.out, But.refl _ _⟩
          case round =>
            obtain ⟨q, hq, rfl, ho, hbt⟩ := hrel
            have HOQ := Lib.hid ho
            have HBQ := Lib.hid hbt
            have HXW := Lib.hid (show Ext wp wr from (HB7.out.trans hbt).below HXA.out (by simp; exact hgl))
            by_cases hlq : q < j
            · have hql : q < k.cuts.length := by rw [← HN.out]; exact hlq
              have hqj : (q : Int) < (j : Int) := by omega
              obtain ⟨b, o, T, rfl, hb, d0, d1, d2, hsp⟩ := HAT.out q hql
              obtain ⟨T1, T2, T3⟩ := T
              simp only at d0
              have x0 := HXP.out.trans HXW.out
              replace d0 := x0.cell_some d0
              replace d1 := x0.cell_some d1
              replace d2 := x0.cell_some d2
              have ld := cell_lt d0
              have HSI := Lib.hid (hsp.ext x0)
              have HAI := Lib.hid (HAT7.out.butC hbt (fun b o n c e => by
                simp only [Value.slice.injEq, Option.some.injEq, Addr.mk.injEq] at e
                obtain ⟨⟨rfl, -⟩, -⟩ := e
                simpa using HB7N.out))
              have hcb := HCU.out _ (List.getElem_mem hql)
              obtain ⟨hlc, -⟩ := cutB_iff.1 hcb
              obtain ⟨hde, hdb1, hdb2⟩ := dist_bd HPI.out hlc
              have hdz : distE [(px, py)] k.cuts[q].1 = 0 := by unfold distE; rw [HPI.out, hlc]; rfl
              have HDI := Lib.hid fun (W : World) (x : Ext wr W) => (show Calls Try.prog 86 #[.slice (some ⟨b7, 0, none⟩) 1 1, .slice T1 T2 T3] W fun e w' => e = .returned (.tuple #[V2 (distP [(px, py)] k.cuts[q].1).1 (distP [(px, py)] k.cuts[q].1).2, .int .i64 0]) ∧ Ext W w' from by
                have := distance_any _ _ _ _ W (HAI.out.ext x) (HSI.out.ext x)
                rwa [hdz] at this)
              have HDC := Lib.hid (show deepC k k.cuts[q] (pointC fx fy p W' i) = depN (profC k k.cuts[q]) (distP [(px, py)] k.cuts[q].1) k.den by rw [HPT.out]; rfl)
              have HDS := Lib.hid (deepUp_step (k := k) (s := pointC fx fy p W' i) hql)
              have HDL := Lib.hid (HDU.out i q (by rw [← HN.out]; exact hq))
              have hqT : q < Ts.length := by rw [HPK.out]; exact hlq
              have HPI2 := Lib.hid ((HPP.out q hqT hql).ext HXW.out)
              obtain ⟨Ap, cp, hpe, _, _, hpr⟩ := HPO.out
              simp only [Value.slice.injEq] at hpe
              obtain ⟨rfl, hpk, rfl⟩ := hpe
              obtain ⟨bp, op, rfl, hbp, hpc⟩ := hpr q hqT
              have p0 := HXW.out.cell_some (hpc 0 _ rfl)
              simp only [profK, Nat.mul_one, Nat.add_zero] at p0
              have hqk : (q : Int) < (kv : Int) := by rw [hpk, HPK.out]; exact hqj
              clear hpk
              have a2 := (HWA.out.ext (Ext.refl _)).c2
              replace a2 := (HB7.out.trans hbt).cell a2 (by simp; omega)
              have t0 := (HB7.out.trans hbt).cell HBA.out.c0 (by simp)
              have t3 := (HB7.out.trans hbt).cell HBA.out.c3 (by simp)
              have lt0 := cell_lt t0
              have la2 := cell_lt a2
              have lp := cell_lt p0
              obtain ⟨g', cg, hge, _, hgl2, hgc, hgf⟩ := ho.slot (j := i) (by rw [carvTo_len]; exact hlt)
              simp only [Value.slice.injEq, Option.some.injEq, Addr.mk.injEq] at hge
              obtain ⟨⟨rfl, -⟩, -, -⟩ := hge
              have g0 := hgc 0 _ rfl
              simp only [intK, Nat.mul_one, Nat.add_zero, carvTo_at] at g0
              have gf := hgf i
              have HST := Lib.hid (carvTo_set (k := k) (fx := fx) (fy := fy) (p := p) (W := W') (N := N) (i := i) (j := q))
              obtain ⟨dq, hdq⟩ : ∃ z, z = deepUp k (pointC fx fy p W' i) q := ⟨_, rfl⟩
              obtain ⟨dn, hdn⟩ : ∃ z, z = deepUp k (pointC fx fy p W' i) (q + 1) := ⟨_, rfl⟩
              obtain ⟨dc, hdc⟩ : ∃ z, z = deepC k k.cuts[q] (pointC fx fy p W' i) := ⟨_, rfl⟩
              rw [← hdq] at g0 HDS HDL
              rw [← hdn] at HDS HST
              rw [← hdc] at HDS HDC
              have HMN := Lib.hid (min_deep HDS.out)
              have hdcl : dc ≤ 11000 := by
                rw [hdc]
                have h1 := deepC_le (k := k) (c := k.cuts[q]) (s := pointC fx fy p W' i)
                have h2 := hi_bd HTB.out hcb
                omega
              have HPF := Lib.hid (show ∀ x ∈ profC k k.cuts[q], 0 ≤ x ∧ x ≤ 20000 from fun x hx => by
                obtain ⟨r, hr, rfl⟩ := List.getElem_of_mem hx
                unfold profC at hr ⊢
                rw [profL_at]
                rw [profL_len] at hr
                have h1 := List.all_eq_true.1 HLB.out _ (List.getElem_mem hql)
                rw [decide_eq_true_eq] at h1
                exact (far_bd HTN.out.1 HTN.out.2.1 HTN.out.2.2 (show r ≤ 100 by omega)).2.2)
              have HPD := Lib.hid fun (W : World) (x : But [] wr W) => (show Calls Try.prog 87 #[picV Ts[q], V2 (distP [(px, py)] k.cuts[q].1).1 (distP [(px, py)] k.cuts[q].1).2, .int .i64 k.den] W fun e w' => e = .returned (.int .i64 (dc : Int)) ∧ Ext W w' from by
                have := profDepth_any _ _ (distP [(px, py)] k.cuts[q].1).1 (distP [(px, py)] k.cuts[q].1).2 k.den W (HPI2.out.butC x (fun _ _ _ _ _ => by simp)) HPF.out hdb1 hdb2 HTN.out.2.2
                rwa [← HDC.out] at this)
              unfold picV at HPD
              have wn : IntKind.i64.wrap (-(dc : Int)) = -(dc : Int) := IntWalk.i64_in _ (by omega)
              generalize (distP [(px, py)] k.cuts[q].1).1 = z1 at *
              generalize (distP [(px, py)] k.cuts[q].1).2 = z2 at *
              generalize Ts[q].1 = u1 at *
              generalize Ts[q].2.1 = u2 at *
              generalize Ts[q].2.2 = u3 at *
              generalize k.cuts[q].2.1 = pr at *
              generalize k.cuts[q].2.2 = cr at *
              clear hgc hgf ho hbt hdq hdn hdc hcb hlc hde hdb1 hdb2 hdz x0 hsp hb hbp hpc hpr
              have HAF := Lib.hid (And.intro a2 (And.intro t0 (And.intro t3 (And.intro p0 (And.intro g0 gf)))))
              have HWN2 := Lib.hid wn
              clear a2 t0 t3 p0 g0 gf la2 lt0 lp wn hgl2
              go_upto_region 25 with fail
              refine lay_wp (fun W => Ext wr W ∧ W.cell? ⟨wr.heap.size, 0, none⟩ = some (.slice T1 T2 T3)) ⟨by (repeat' (first | with_reducible exact Ext.refl _ | with_reducible apply Ext.alloc | with_reducible apply Ext.drew | with_reducible apply Ext.drewN | with_reducible refine Ext.setCell ?_ ?_ _ | with_reducible apply Ext.step | with_reducible assumption | with_reducible exact Nat.le_refl _ | (simp; done) | (simp; omega))), by go_cell⟩ ?_
              rintro W8 ⟨x8, m0⟩
              have HX8 := Lib.hid x8
              have lm := cell_lt m0
              clear x8 d0 d1 d2 ld
              go_wp2_with fail
              refine (HDI.out _ HX8.out).mono ?_
              rintro e W9 ⟨rfl, x9⟩
              have HX9 := Lib.hid (HX8.out.trans x9)
              clear x9 m0 lm
              go_upto_region 26 with fail
              refine lay_wp (fun W => Ext W9 W ∧ W.cell? ⟨W9.heap.size, 0, none⟩ = some (.int .i64 z1) ∧ W.cell? ⟨W9.heap.size, 1, none⟩ = some (.int .i64 z2)) ⟨by (repeat' (first | with_reducible exact Ext.refl _ | with_reducible apply Ext.alloc | with_reducible apply Ext.drew | with_reducible apply Ext.drewN | with_reducible refine Ext.setCell ?_ ?_ _ | with_reducible apply Ext.step | with_reducible assumption | with_reducible exact Nat.le_refl _ | (simp; done) | (simp; omega))), by go_cell, by go_cell⟩ ?_
              rintro W10 ⟨x10, n0, n1⟩
              have HX10 := Lib.hid (HX9.out.trans x10)
              clear x10
              obtain ⟨a2, t0, t3, p0, g0, gf⟩ := HAF.out
              have g0' := HX10.out.cell_some g0
              have gf' := HX10.out.frozen g0 gf
              have hgN : (i : Int) < (N : Int) := hii
              have y1 := But.cells (D := []) (HX10.out.cell_some a2) (by simp)
              have y2 := But.cells (D := []) (HX10.out.cell_some t3) (by simp)
              have y3 := But.cells (D := []) (HX10.out.cell_some p0) (by simp)
              have y4 := But.cells (D := []) g0' (by simp)
              have y5 := But.cells (D := []) n0 (by simp)
              have y6 := But.cells (D := []) n1 (by simp)
              have HGF := Lib.hid (And.intro g0' gf')
              clear a2 t0 t3 p0 g0 gf g0' gf' n0 n1
              refine (wpIn_wide (n := 3)).1 ?_
              refine wpIn_region_steps [] 20 [(0, true), (1, true), (2, true), (3, true), (4, true), (5, true), (6, true), (7, true), (8, true), (9, true), (10, true), (11, true), (12, true), (13, true), (14, true), (15, true), (16, true), (17, true), (18, true), (19, true)] (by kernel_rfl) (by kernel_rfl) ?_
              iterate 16 (refine wpSD_q (by rfl) (fun _ _ _ => trivial) (fun K hK => ?_); go_simp; refine hK _ ?_; clear hK K)
              refine wpSD_q (by rfl) (fun _ _ _ => trivial) (fun K hK => ?_)
              go_simp
              refine ⟨.int .i64 dc, fun δ => callsIn_wide.2 (HPD.out δ.wd (HX10.out.but.trans δ.but)), hK _ ?_⟩
              clear hK K
              have wn := HWN2.out
              refine wpSD_q (by rfl) (fun _ _ _ => trivial) (fun K hK => ?_)
              go_simp
              refine hK _ ?_
              clear hK K
              have e9 : (if dq < dc then -(dc : Int) else -(dq : Int)) = -(dn : Int) := by
                have := HDS.out
                split <;> omega
              iterate 2 (refine wpSD_q (by rfl) (fun _ _ _ => trivial) (fun K hK => ?_); go_simp; refine hK _ ?_; clear hK K)
              refine wpSD_nil ?_
              intro W11 x11
              have HX11 := Lib.hid (HX10.out.trans x11)
              have k0 := x11.cell_some HGF.out.1
              have kf := x11.frozen HGF.out.1 HGF.out.2
              have lk := cell_lt k0
              clear x11 y1 y2 y3 y4 y5 y6 e9 wn
              simp only [List.drop_succ_cons, List.drop_zero]
              gi_wp2
              go_wp2_with fail
              go_roundw
              case rel =>
                have h1 := (HOQ.out.ext HX11.out).put1N carvTo_len hlt rfl (-(dn : Int)) (.int .i64 (-(dn : Int))) rfl
                rw [HST.out] at h1
                exact ⟨q + 1, by omega, by go_num, h1, (HBQ.out.ext HX11.out).setCell (by simp) _⟩
              case measure => simp [intOf]; omega
            · obtain rfl : q = j := by omega
              clear ho hbt
              go_wp2_with fail
              go_roundw
              case rel => exact ⟨i + 1, by omega, by go_num, by rw [← carvTo_next, ← HN.out]; exact HOQ.out, HB7.out.trans HBQ.out⟩
              case measure => simp [intOf]; omega
        · obtain rfl : i = N := by omega
          have HEN := Lib.hid (carvTo_end (k := k) (fx := fx) (fy := fy) (p := p) (W := W') (H := H') HNE.out)
          have hbx := HBA.out.but hbt (by simp)
          have t0 := hbx.c0
          have t1 := hbx.c1
          have t2 := hbx.c2
          have t3 := hbx.c3
          have lt0 := cell_lt t0
          have hxw := hbt.below HXA.out (by simp; exact hgl)
          have HXF := Lib.hid (HXP.out.trans hxw)
          have hrx := HRP.out.ext hxw
          have r0 := hrx.c0
          have r1 := hrx.c1
          have r2 := hrx.c2
          have r3 := hrx.c3
          have f0 := hrx.f0
          have f1 := hrx.f1
          have f2 := hrx.f2
          have f3 := hrx.f3
          have lr := cell_lt r0
          have HRX := Lib.hid hrx
          clear hrx ho hbt hxw hbx
          go_wp2_with fail
          have hp := HRX.out.put (.int .i64 (W' : Int)) (.int .i64 (H' : Int)) (.int .i64 p) (.slice (some ⟨g, 0, none⟩) i i)
          have hwb : w.heap.size ≤ w.heap.size + 1 + 1 := by omega
          have hx4 : Ext w ((((wr.setCell ⟨w.heap.size + 1 + 1, 0, none⟩ (.int .i64 (W' : Int))).setCell ⟨w.heap.size + 1 + 1, 1, none⟩ (.int .i64 (H' : Int))).setCell ⟨w.heap.size + 1 + 1, 2, none⟩ (.int .i64 p)).setCell ⟨w.heap.size + 1 + 1, 3, none⟩ (.slice (some ⟨g, 0, none⟩) i i)) :=
            (((HXF.out.setCell (p := ⟨w.heap.size + 1 + 1, 0, none⟩) hwb _).setCell (p := ⟨w.heap.size + 1 + 1, 1, none⟩) hwb _).setCell (p := ⟨w.heap.size + 1 + 1, 2, none⟩) hwb _).setCell (p := ⟨w.heap.size + 1 + 1, 3, none⟩) hwb _
          have HOF := Lib.hid ((HO.out.kept (grown_put4 wr (w.heap.size + 1 + 1) (.int .i64 (W' : Int)) (.int .i64 (H' : Int)) (.int .i64 p) (.slice (some ⟨g, 0, none⟩) i i)) (.inr (by simp [Value.ownBlock]; omega))).mono (show w.heap.size ≤ g by omega))
          have HX4' := Lib.hid hx4
          clear hx4 hwb r0 r1 r2 r3 f0 f1 f2 f3 lr t0 t1 t2 t3 lt0
          generalize ((((wr.setCell ⟨w.heap.size + 1 + 1, 0, none⟩ (.int .i64 (W' : Int))).setCell ⟨w.heap.size + 1 + 1, 1, none⟩ (.int .i64 (H' : Int))).setCell ⟨w.heap.size + 1 + 1, 2, none⟩ (.int .i64 p)).setCell ⟨w.heap.size + 1 + 1, 3, none⟩ (.slice (some ⟨g, 0, none⟩) i i)) = WF at *
          have q0 := hp.c0
          have q1 := hp.c1
          have q2 := hp.c2
          have q3 := hp.c3
          refine bodyPost_ret (v := .tuple #[surfV (W' : Int) (H' : Int) p (.slice (some ⟨g, 0, none⟩) i i), .int .i64 0]) (by simp [results, Try.results47, go_sem, q0, q1, q2, q3]) rfl ?_
          have e1 : ∀ z, ifOk (carveE k fx fy p (W' : Int) (H' : Int)) z = z := fun z => if_pos HZE.out
          rw [e1, e1, e1, HZE.out, HZL.out, ← HEN.out]
          exact ⟨_, rfl, HOF.out, HX4'.out⟩
end Go.Proofs.Ytlljhimaopnbfaa
