/- light.pictures of a field's picture. Conditions: a field lies there; the lights are valid. -/
import Derived.Test.YtlljhimaopnbfaaLLev
import Derived.Test.YtlljhimaopnbfaaLSlot
namespace Go.Proofs.Ytlljhimaopnbfaa
open Go.RowKit Go.Shelf

attribute [local go_sem] Oper.semAt_some

def picsL (n m : Nat) (p : Int) (hs : List Int) (ls : List (Int × Int × Int)) : List (List (Int × Int)) := ls.map fun l => seenL n m p hs l.1 l.2.1 l.2.2
def RetPics (w : World) (pp : List (List (Int × Int))) (e : Ending) (w' : World) : Prop := ∃ v, e = .returned v ∧ PicIs w' v pp ∧ Ext w w'

set_option maxRecDepth 100000 in
set_option maxHeartbeats 4000000 in
theorem pictures_any (B n m : Nat) (p : Int) (hs : List Int) (lv : Value) (ls : List (Int × Int × Int)) (w : World) (hF : Fld w B n m p hs) (hL : lightK.Is w lv ls) (hb : ls.all lightB' = true) (hl : ls.length ≤ 1000) :
    Calls Try.prog 83 #[lv, .func (.func 81) #[.pointer (some ⟨B, 0, none⟩)] #[]] w (RetPics w (picsL n m p hs ls)) := by
  have HF := Lib.hid hF
  obtain ⟨A, k, c, rfl, hk, hk0, hr, hkm⟩ := hL.open_
  have HR := Lib.hid hr
  have HK := Lib.hid hk
  have HB := Lib.hid hb
  have HLL := Lib.hid hl
  clear hb hL hr hk hF hl
  go_enter Try.func83, Try.ntmps83
  go_wp2_with fail
  go_loopw [10, 5, 7] (fun iv ov _ wr => ∃ j : Nat, j ≤ k ∧ iv = .int .i64 j ∧ (∃ Ts, picK.Own w.heap.size wr ov Ts ∧ Ts.length = j ∧ ∀ q (h : q < Ts.length) (h' : q < ls.length), shadeK.Own w.heap.size wr (picV Ts[q]) (seenL n m p hs ls[q].1 ls[q].2.1 ls[q].2.2)) ∧ Ext w wr) (fun iv _ _ _ => k - (intOf iv).toNat)
  case atStart => exact ⟨0, by omega, rfl, ⟨[], EK.Own.nil _ _, rfl, fun q h => by simp at h⟩, Ext.refl _⟩
  case round =>
    obtain ⟨j, hj, rfl, ⟨Ts, ho, hT, hP⟩, hx⟩ := hrel
    by_cases hlt : j < k
    · have hjl : j < ls.length := by rw [HK.out]; exact hlt
      obtain ⟨Av, kv, cv, rfl⟩ := ho.shape
      obtain ⟨b, o, rfl, hbb, h0, h1, h2⟩ := lightK_at HR.out j hjl
      have g0 := hx.cell_some h0
      have g1 := hx.cell_some h1
      have g2 := hx.cell_some h2
      have hbr := hx.lt hbb
      have HBJ := Lib.hid (show lightB ls[j].1 ls[j].2.1 ls[j].2.2 = true from List.all_eq_true.1 HB.out _ (List.getElem_mem hjl))
      have HSE := Lib.hid (show ∀ v' w', shadeK.Own w.heap.size w' v' (seenL n m p hs ls[j].1 ls[j].2.1 ls[j].2.2) → shadeK.Own w.heap.size w' v' (seenL n m p hs ls[j].1 ls[j].2.1 ls[j].2.2) from fun _ _ h => h)
      have HX := Lib.hid hx
      have HO := Lib.hid ho
      have HT := Lib.hid hT
      have HP := Lib.hid hP
      have HBB := Lib.hid (show w.heap.size ≤ wr.heap.size from hx.bel.size)
      generalize hl1 : ls[j].1 = lx at *
      generalize hl2 : ls[j].2.1 = ly at *
      generalize hl3 : ls[j].2.2 = lz at *
      have HL1 := Lib.hid (And.intro hl1 (And.intro hl2 hl3))
      clear h0 h1 h2 hx ho hT hP hl1 hl2 hl3
      go_wp2_with fail
      obtain ⟨⟨b1, b2⟩, ⟨b3, b4⟩, b5, b6⟩ := lightB_iff.1 HBJ.out
      refine (picture_any B n m p hs lx ly lz _ (HF.out.ext (HX.out.trans (by (repeat' (first | with_reducible exact Ext.refl _ | with_reducible apply Ext.alloc | with_reducible apply Ext.drew | with_reducible apply Ext.drewN | with_reducible refine Ext.setCell ?_ ?_ _ | with_reducible apply Ext.step | with_reducible assumption | with_reducible exact Nat.le_refl _ | (simp; done) | (simp; omega)))))) b1 b2 b3 b4 b5 b6).mono ?_
      rintro e W2 ⟨pv, rfl, op, x2⟩
      obtain ⟨Ap, kp, cp, rfl⟩ := op.shape
      have HX2 := Lib.hid (show Ext wr W2 from Ext.trans (by (repeat' (first | with_reducible exact Ext.refl _ | with_reducible apply Ext.alloc | with_reducible apply Ext.drew | with_reducible apply Ext.drewN | with_reducible refine Ext.setCell ?_ ?_ _ | with_reducible apply Ext.step | with_reducible assumption | with_reducible exact Nat.le_refl _ | (simp; done) | (simp; omega)))) x2)
      have HOP := Lib.hid (op.mono (Nat.le_trans HBB.out (by simp)))
      clear x2 op b1 b2 b3 b4 b5 b6
      go_wp2_with (at_builtin; refine EK.app (K := picK) (B := w.heap.size) rfl (.tmp 14) (.tmp 18) rfl W2.heap.size 1 (Ap, kp, cp) rfl rfl (fun i u hu => cell_new hu) (HO.out.ext (HX2.out.alloc _)) (Nat.le_trans HBB.out (HX2.out.alloc _).bel.size) (by rw [HT.out]; have := HLL.out; have := HK.out; omega) ?_; intro v' w3 o3 b3 g3; obtain ⟨Av3, kv3, cv3, rfl⟩ := o3.shape; have HO3 := Lib.hid o3; have HB3 := Lib.hid b3; have HG3 := Lib.hid g3; clear o3 b3 g3)
      go_roundw
      case rel =>
        refine ⟨j + 1, by omega, by go_num, ⟨_, HO3.out, by simp [HT.out], fun q h h' => ?_⟩, (HX.out.trans (HX2.out.alloc _)).below HB3.out (Nat.le_refl _)⟩
        rw [List.length_append, HT.out, List.length_singleton] at h
        rcases (by omega : q < j ∨ q = j) with hq | rfl
        · rw [List.getElem_append_left (by rw [HT.out]; exact hq)]
          have h4 := (HP.out q (by rw [HT.out]; exact hq) h').ext (HX2.out.alloc (.cells #[.slice Ap kp cp] 57))
          exact h4.kept HG3.out (own_ne h4 (HO.out.ext (HX2.out.alloc _)) (by decide))
        · rw [List.getElem_append_right (by rw [HT.out]; exact Nat.le_refl _)]
          simp only [HT.out, Nat.sub_self, List.getElem_singleton]
          obtain ⟨e1, e2, e3⟩ := HL1.out
          rw [e1, e2, e3]
          have h4 := HOP.out.ext ((Ext.refl W2).alloc (.cells #[.slice Ap kp cp] 57))
          exact h4.kept HG3.out (own_ne h4 (HO.out.ext (HX2.out.alloc _)) (by decide))
      case measure => simp [intOf]; omega
    · obtain rfl : j = k := by omega
      obtain ⟨Av, kv, cv, rfl⟩ := ho.shape
      have HX := Lib.hid hx
      have HO := Lib.hid ho
      have HT := Lib.hid hT
      have HP := Lib.hid hP
      clear hx ho hT hP
      go_wp2_with fail
      go_ret
      exact ⟨_, rfl, ⟨Ts, HO.out.is, by rw [picsL, List.length_map, HT.out, HK.out], fun q h h' => by simpa [picsL] using (HP.out q h (by simpa [picsL] using h')).is⟩, HX.out⟩
end Go.Proofs.Ytlljhimaopnbfaa
