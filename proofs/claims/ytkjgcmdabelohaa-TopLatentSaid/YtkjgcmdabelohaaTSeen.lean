/- barleycorntop.seen. Conditions: the slice reads as a list, and each tilt has a shade. -/
import Derived.Test.YtkjgcmdabelohaaLRead
import Derived.Test.YtkjgcmdabelohaaLSameB
namespace Go.Proofs.Ytkjgcmdabelohaa
open Go.RowKit

def shOf (p lx ly lz : Int) (t : Int × Int) : Int × Int := (brightN t.1 t.2 p lx ly lz, brightD t.1 t.2 p lx ly lz)
set_option maxRecDepth 100000 in
set_option maxHeartbeats 4000000 in
theorem seen_any (v : Value) (ts : List (Int × Int)) (p lx ly lz : Int) (w : World) (hv : tiltK.Is w v ts) (hl : ts.length ≤ 1000) (hE : ∀ t ∈ ts, brightE t.1 t.2 p lx ly lz = 0) :
    Calls Try.prog 17 #[v, .int .i64 p, lightV lx ly lz] w (RetEE boolK w (readL (ts.map (shOf p lx ly lz))) (readE (ts.map (shOf p lx ly lz)))) := by
  obtain ⟨A, n, c, rfl, hn, -, hr, hm⟩ := hv.open_
  have HR := Lib.hid hr
  have HN := Lib.hid hn
  have HB := Lib.hid fun (t : Int × Int) (h : t ∈ ts) (W : World) => (show Calls Try.prog 14 #[tiltV t.1 t.2, .int .i64 p, lightV lx ly lz] W fun e w' => e = .returned (.tuple #[shadeV (shOf p lx ly lz t).1 (shOf p lx ly lz t).2, .int .i64 0]) ∧ Ext W w' from by
    have := Bright_any t.1 t.2 p lx ly lz W
    rwa [brightV, hE t h] at this)
  have HRD := Lib.hid fun (v : Value) (xs : List (Int × Int)) (W : World) (h : shadeK.Is W v xs) => Read_any v xs W h
  rw [hn] at hl
  clear hr hn hv hE
  have HL0 := Lib.hid (show (w.alloc (.cells #[.int .i64 lx, .int .i64 ly, .int .i64 lz] 43)).cell? ⟨w.heap.size, 0, none⟩ = some (.int .i64 lx) ∧ (w.alloc (.cells #[.int .i64 lx, .int .i64 ly, .int .i64 lz] 43)).cell? ⟨w.heap.size, 1, none⟩ = some (.int .i64 ly) ∧ (w.alloc (.cells #[.int .i64 lx, .int .i64 ly, .int .i64 lz] 43)).cell? ⟨w.heap.size, 2, none⟩ = some (.int .i64 lz) from ⟨cell_new rfl, cell_new rfl, cell_new rfl⟩)
  go_enter Try.func17, Try.ntmps17
  go_wp2_with fail
  refine lay_wp (fun W => Ext w W ∧ W.cell? ⟨w.heap.size, 0, none⟩ = some (.int .i64 lx) ∧ W.cell? ⟨w.heap.size, 1, none⟩ = some (.int .i64 ly) ∧ W.cell? ⟨w.heap.size, 2, none⟩ = some (.int .i64 lz)) ⟨by (repeat' (first | with_reducible exact Ext.refl _ | with_reducible apply Ext.alloc | with_reducible apply Ext.drew | with_reducible apply Ext.drewN | with_reducible refine Ext.setCell ?_ ?_ _ | with_reducible apply Ext.step | with_reducible assumption | with_reducible exact Nat.le_refl _ | (simp; done) | (simp; omega))), HL0.out⟩ ?_
  rintro W0 ⟨x0, l0⟩
  have HX0 := Lib.hid x0
  have HLC := Lib.hid l0
  clear x0 l0 HL0
  go_loopw [8, 15] (fun sv iv W => ∃ i : Nat, i ≤ n ∧ iv = .int .i64 (i : Int) ∧ shadeK.Own W0.heap.size W sv ((ts.take i).map (shOf p lx ly lz)) ∧ Ext W0 W) (fun _ iv _ => n - (intOf iv).toNat)
  case atStart => exact ⟨0, by omega, rfl, EK.Own.nil _ _, Ext.refl _⟩
  case round =>
    obtain ⟨i, hi, rfl, ho, hx⟩ := hrel
    have HO := Lib.hid ho
    have HXI := Lib.hid hx
    by_cases hlt : i < n
    · have hl2 : i < ts.length := by rw [HN.out]; exact hlt
      have hii : (i : Int) < (n : Int) := by omega
      obtain ⟨b, o, rfl, hb, hc0, hc1⟩ := pairs_at (K := tiltK) rfl (fun _ => rfl) HR.out i hl2
      have x1 := HX0.out.trans hx
      replace hc0 := x1.cell_some hc0
      replace hc1 := x1.cell_some hc1
      have lc := cell_lt hc0
      obtain ⟨l0, l1, l2⟩ := HLC.out
      replace l0 := hx.cell_some l0
      replace l1 := hx.cell_some l1
      replace l2 := hx.cell_some l2
      have ll := cell_lt l0
      obtain ⟨Ao, ko, co, rfl⟩ := ho.shape
      have HST := Lib.hid (show (ts.take (i + 1)).map (shOf p lx ly lz) = (ts.take i).map (shOf p lx ly lz) ++ [shOf p lx ly lz ts[i]] by
        rw [List.take_succ_eq_append_getElem hl2, List.map_append]
        rfl)
      have HMEM := Lib.hid (List.getElem_mem hl2)
      have HLE := Lib.hid (show ((ts.take i).map (shOf p lx ly lz)).length ≤ 1000000000 by simp; omega)
      obtain ⟨t, ht⟩ : ∃ t, t = ts[i] := ⟨_, rfl⟩
      rw [← ht] at hc0 hc1 HST HMEM
      clear ho hx x1 hb ht
      go_wp2_with fail
      refine (HB.out t HMEM.out _).mono ?_
      rintro e W1 ⟨rfl, x1⟩
      have HX1 := Lib.hid (show Ext wr W1 from Ext.trans (by (repeat' (first | with_reducible exact Ext.refl _ | with_reducible apply Ext.alloc | with_reducible apply Ext.drew | with_reducible apply Ext.drewN | with_reducible refine Ext.setCell ?_ ?_ _ | with_reducible apply Ext.step | with_reducible assumption | with_reducible exact Nat.le_refl _ | (simp; done) | (simp; omega)))) x1)
      clear hc0 hc1 lc l0 l1 l2 ll x1
      have hs1 := (HXI.out.trans HX1.out).bel.size
      go_wp2_with (at_builtin; refine EK.app (K := shadeK) (B := W0.heap.size) (xs := (ts.take i).map (shOf p lx ly lz)) rfl (.tmp 29) (.tmp 31) rfl (W1.heap.size + 1) 1 (shOf p lx ly lz t) rfl rfl (fun i u hu => cell_new1 hu) ((HO.out.ext HX1.out).ext (((Ext.refl _).alloc _).alloc _)) (by simp; omega) HLE.out ?_; intro v' w3 o3 b3 g3; have HO3 := Lib.hid o3; have HX3 := Lib.hid (Ext.below (((HXI.out.trans HX1.out).alloc _).alloc _) b3 (Nat.le_refl _)); clear o3 b3 g3)
      go_roundw
      case rel => exact ⟨i + 1, by omega, by go_num, by rw [HST.out]; exact HO3.out, HX3.out⟩
      case measure => simp [intOf]; omega
    · obtain rfl : i = n := by omega
      have HT := Lib.hid (show ts.take i = ts by rw [← HN.out, List.take_length])
      clear ho hx
      obtain ⟨Ao, ko, co, rfl⟩ := HO.out.shape
      have HIS := Lib.hid (show shadeK.Is wr (.slice Ao ko co) (ts.map (shOf p lx ly lz)) by have := HO.out.is; rwa [HT.out] at this)
      go_wp2_with fail
      refine (HRD.out _ _ _ HIS.out).mono ?_
      rintro e W2 ⟨v2, rfl, o2, x2⟩
      have HO2 := Lib.hid o2
      have HX2 := Lib.hid x2
      clear o2 x2
      go_wp2_with fail
      go_ret2
      exact ⟨_, rfl, HO2.out.mono (HX0.out.trans HXI.out).bel.size, (HX0.out.trans HXI.out).trans HX2.out⟩
end Go.Proofs.Ytkjgcmdabelohaa
