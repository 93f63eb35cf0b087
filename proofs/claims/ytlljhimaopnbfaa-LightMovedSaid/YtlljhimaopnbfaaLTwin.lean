/- The law's twin of a work. Condition: the cuts read as a list. -/
import Derived.Test.YtlljhimaopnbfaaGTwinP
namespace Go.Proofs.Ytlljhimaopnbfaa
open Go.RowKit

set_option maxRecDepth 100000 in
set_option maxHeartbeats 4000000 in
theorem twinned_any (k : WkT) (v : Value) (w : World) (hI : CutsIs w v k.cuts) (hl : k.cuts.length ≤ 1000) (hsl : ∀ c ∈ k.cuts, c.1.length ≤ 1000) :
    Calls Try.prog 58 #[k.val v] w fun e w' => ∃ v' Ts, e = .returned (k.val v') ∧ TwinM k w.heap.size w w' v' Ts k.cuts.length ∧ Ext w w' := by
  have hI' := hI
  obtain ⟨Ts0, hTs, hTl, hTq⟩ := hI'
  have HTS := Lib.hid hTs
  obtain ⟨A, c, hv, h0, hc, -⟩ := hTs
  rw [hTl] at hv hc
  subst hv
  have HTQ := Lib.hid hTq
  have HTL := Lib.hid hTl
  obtain ⟨n, hn⟩ : ∃ n, n = k.cuts.length := ⟨_, rfl⟩
  rw [← hn] at HTS HTL hl hc ⊢
  have HN := Lib.hid hn
  clear hI hTq hTl hn h0
  have hsum : ([] : List CutR).length + Ts0.length ≤ 1000000000 := by rw [HTL.out]; simp; omega
  have HSM := Lib.hid hsum
  clear hsum
  go_enter Try.func58, Try.ntmps58
  go_wp2_with (at_builtin; refine EK.appAll (K := cutK) (B := w.heap.size) (xs := []) rfl (.tmp 4) (.tmp 6) rfl rfl rfl (HTS.out.ext (by (repeat' (first | with_reducible exact Ext.refl _ | with_reducible apply Ext.alloc | with_reducible apply Ext.drew | with_reducible apply Ext.drewN | with_reducible refine Ext.setCell ?_ ?_ _ | with_reducible apply Ext.step | with_reducible assumption | with_reducible exact Nat.le_refl _ | (simp; done) | (simp; omega))))) own_lit2 (by simp; omega) HSM.out ?_; intro v' w3 o3 b3 g3; have HO3 := Lib.hid (show cutK.Own w.heap.size w3 v' Ts0 by simpa using o3); have HW3 := Lib.hid (show BoxAt w.heap.size #[.int .i64 k.tip, .int .i64 k.num, .int .i64 k.den, .int .i64 k.bite, .int .i64 k.slack, .int .i64 k.wall, .int .i64 k.deepest, .int .i64 k.play, .int .i64 k.fx, .int .i64 k.fy, .int .i64 k.fh, .int .i64 k.fd, .slice A n c] 79 w3 ∧ BoxAt (w.heap.size + 1) #[.int .i64 0, .int .i64 0, .int .i64 0, .int .i64 0, .int .i64 0, .int .i64 0, .int .i64 0, .int .i64 0, .int .i64 0, .int .i64 0, .int .i64 0, .int .i64 0, .slice none 0 0] 79 w3 ∧ Ext w w3 from twin_boxes b3 g3); obtain ⟨Av, kv, cv, rfl⟩ := own_shapeW o3; obtain rfl : kv = n := twin_len HO3.out HTL.out; have hz12 := HW3.out.1.cell (i := 12) rfl; have hf12 := frozen_of_row w3 w.heap.size 12 _ _ HW3.out.1; have lz := cell_lt hz12; clear o3 b3 g3)
  have hne : w.heap.size ≠ w.heap.size + 1 := by omega
  have hown4 := HO3.out.oth (g := w.heap.size) (o := 12) (u := .slice Av kv cv) (.inr (HO3.out.box_ne HW3.out.1 (by decide)))
  have HT4 := Lib.hid (show TwinM k w.heap.size w (w3.setCell ⟨w.heap.size, 12, none⟩ (.slice Av kv cv)) (.slice Av kv cv) Ts0 0 from ⟨hown4, by rw [HTL.out, HN.out], fun q a b => (HTQ.out q a b).2, fun q a b hq => absurd hq (by omega), fun q a b _ => (HTQ.out q a b).1, fun p q _ _ hp => absurd hp (by omega)⟩)
  have hb4 : BoxAt w.heap.size #[.int .i64 k.tip, .int .i64 k.num, .int .i64 k.den, .int .i64 k.bite, .int .i64 k.slack, .int .i64 k.wall, .int .i64 k.deepest, .int .i64 k.play, .int .i64 k.fx, .int .i64 k.fy, .int .i64 k.fh, .int .i64 k.fd, .slice Av kv cv] 79 (w3.setCell ⟨w.heap.size, 12, none⟩ (.slice Av kv cv)) := HW3.out.1.setCell 12 _
  have HB4 := Lib.hid hb4
  clear hown4 hb4
  refine lay_wp (fun W => Ext w W ∧ BoxAt w.heap.size #[.int .i64 k.tip, .int .i64 k.num, .int .i64 k.den, .int .i64 k.bite, .int .i64 k.slack, .int .i64 k.wall, .int .i64 k.deepest, .int .i64 k.play, .int .i64 k.fx, .int .i64 k.fy, .int .i64 k.fh, .int .i64 k.fd, .slice Av kv cv] 79 W ∧ BoxAt (w.heap.size + 1) #[.int .i64 0, .int .i64 0, .int .i64 0, .int .i64 0, .int .i64 0, .int .i64 0, .int .i64 0, .int .i64 0, .int .i64 0, .int .i64 0, .int .i64 0, .int .i64 0, .slice none 0 0] 79 W ∧ TwinM k w.heap.size w W (.slice Av kv cv) Ts0 0) ⟨HW3.out.2.2.setCell (Nat.le_refl _) _, HB4.out, HW3.out.2.1.setOther (by simp) _, HT4.out⟩ ?_
  clear HT4 HB4 hz12 hf12 lz HW3 HO3 HSM
  clear w3
  rintro W4 ⟨x4, b4, z4, t4⟩
  have X4 := Lib.hid x4
  have B4 := Lib.hid b4
  have Z4 := Lib.hid z4
  have T4 := Lib.hid t4
  have hs4 := b4.lt
  clear x4 b4 z4 t4
  go_loopw [12] (fun iv wr => ∃ (j : Nat) (Ts : List CutR), j ≤ kv ∧ iv = .int .i64 j ∧ Ext w wr ∧ BoxAt w.heap.size #[.int .i64 k.tip, .int .i64 k.num, .int .i64 k.den, .int .i64 k.bite, .int .i64 k.slack, .int .i64 k.wall, .int .i64 k.deepest, .int .i64 k.play, .int .i64 k.fx, .int .i64 k.fy, .int .i64 k.fh, .int .i64 k.fd, .slice Av kv cv] 79 wr ∧ BoxAt (w.heap.size + 1) #[.int .i64 0, .int .i64 0, .int .i64 0, .int .i64 0, .int .i64 0, .int .i64 0, .int .i64 0, .int .i64 0, .int .i64 0, .int .i64 0, .int .i64 0, .int .i64 0, .slice none 0 0] 79 wr ∧ TwinM k w.heap.size w wr (.slice Av kv cv) Ts j) (fun iv _ => kv - (intOf iv).toNat)
  case atStart => exact ⟨0, Ts0, by omega, rfl, X4.out, B4.out, Z4.out, T4.out⟩
  case round =>
    obtain ⟨j, Ts, hj, rfl, hx, hb, hz, ht⟩ := hrel
    have HX := Lib.hid hx
    have HB := Lib.hid hb
    have HZ := Lib.hid hz
    have HT := Lib.hid ht
    have HLE := Lib.hid (show Ts.length = kv from twin_len ht.own rfl |>.symm)
    have hlb := hb.lt
    have h12 : wr.cell? ⟨w.heap.size, 12, none⟩ = some (.slice Av kv cv) := hb.cell rfl
    by_cases hlt : j < kv
    · have hjT : j < Ts.length := by rw [HLE.out]; exact hlt
      have hjk : j < k.cuts.length := by rw [← HN.out]; exact hlt
      obtain ⟨g, c', he, hg1, hg2, hcl, hfr⟩ := ht.own.slot hjT
      simp only [Value.slice.injEq] at he
      obtain ⟨rfl, -, rfl⟩ := he
      have HSP := Lib.hid (ht.old j hjT hjk (Nat.le_refl _))
      have d0 : wr.cell? ⟨g, j * 3, none⟩ = some (rowV Ts[j].1) := hcl 0 _ rfl
      have f0 := hfr (j * 3)
      have hgb : g ≠ w.heap.size := fun e => ht.own.box_ne hb (by decide) (by simp [Value.ownBlock, e])
      have hgz : g ≠ w.heap.size + 1 := fun e => ht.own.box_ne hz (by decide) (by simp [Value.ownBlock, e])
      have hlen := (HTQ.out j (by rw [HTL.out]; exact hlt) hjk)
      have hsl' := hsl _ (List.getElem_mem hjk)
      have HSL := Lib.hid hsl'
      obtain ⟨T, hT⟩ : ∃ T, T = Ts[j].1 := ⟨_, rfl⟩
      rw [← hT] at d0 HSP
      obtain ⟨T1, T2, T3⟩ := T
      simp only [rowV] at d0
      have hji : (j : Int) < (kv : Int) := by omega
      have q0 := But.cells (D := []) h12 (by simp)
      have r12 : ∀ δ : BExt wr, δ.wd.cell? ⟨w.heap.size, 12, none⟩ = some (.slice (some ⟨g, 0, none⟩) kv cv) := fun δ => Ext.cell_some ⟨δ, rfl⟩ h12
      clear hx hb hz ht hcl hfr hlen hsl' hT
      go_wp2_with fail
      refine (wpIn_wide (n := 3)).1 ?_
      refine wpIn_region_qmt (B := wr.heap.size) 11 [0, 1, 2, 4, 5, 6, 7, 8, 9] [3, 10] (Nat.le_refl _) (by kernel_rfl) (by kernel_rfl) ?_
      repeat (refine wpQ_step (by rfl) (fun _ _ _ => trivial) (fun K hK => ?_); go_simp; refine hK _ ?_; clear hK K)
      refine wpQ_nil ?_
      refine wpM_step (by rfl) (wanted_noneG rfl) (fun _ => rfl) (fun δ K hK => ?_)
      go_simp
      have X1 : Ext wr δ.wd := ⟨δ, rfl⟩
      refine ⟨(Below.refl _ _).alloc (Nat.le_refl _) _ |>.mono δ.bel.size, hK _ _ ?_⟩
      clear hK K
      refine EK.appAll_M (K := spotK) (B' := wr.heap.size) (v := .slice (some ⟨δ.wd.heap.size, 0, none⟩) 0 0) (xs := []) (by rfl) rfl (.tmp 18) (.tmp 24) rfl rfl rfl (HSP.out.ext ((HX.out.trans X1).alloc _)) (EK.Own.lit (K := spotK) δ.wd #[] [] rfl X1.bel.size (Nat.zero_le _)) (Nat.le_refl _) (X1.alloc _).bel.size (by have := HSL.out; simp; omega) ?_
      intro v1 w1 o1 b1
      refine wpM_nil ?_
      intro w2 x2
      have X3 : Ext wr w2 := ((X1.alloc _).below b1 (Nat.le_refl _)).trans x2
      obtain ⟨A1, k1, c1, rfl⟩ := own_shapeW o1
      have HST := Lib.hid (HT.out.step HLE.out hjT hjk (A1, k1, c1) X3 (by simpa [rowV] using o1.ext x2) (by have := HX.out.bel.size; omega))
      have HX3 := Lib.hid X3
      have HB3 := Lib.hid ((HB.out.ext X3).setOther (p := ⟨g, j * 3, none⟩) (Ne.symm hgb) (.slice A1 k1 c1))
      have HZ3 := Lib.hid ((HZ.out.ext X3).setOther (p := ⟨g, j * 3, none⟩) (Ne.symm hgz) (.slice A1 k1 c1))
      have HE3 := Lib.hid (show Ext w (w2.setCell ⟨g, j * 3, none⟩ (.slice A1 k1 c1)) from (HX.out.trans X3).setCell hg1 _)
      replace f0 := X3.frozen d0 f0
      replace d0 := X3.cell_some d0
      have ld := cell_lt d0
      clear X1 X3 o1 b1 x2 q0 r12
      simp only [List.drop_succ_cons, List.drop_zero]
      gi_wp2
      go_wp2_with fail
      go_roundw
      case rel => exact ⟨j + 1, _, by omega, by go_num, HE3.out, HB3.out, HZ3.out, HST.out⟩
      case measure => simp [intOf]; omega
    · obtain rfl : j = kv := by omega
      have HTF := Lib.hid HT.out
      obtain ⟨h0, h1, h2, h3, h4, h5, h6, h7, h8, h9, h10, h11, h12'⟩ := WkAt.box (k := k) hb
      have lz := HZ.out.lt
      clear hx hb hz ht
      go_upto_region 7 with fail
      refine wp_region_lit ?_
      iterate 1 (refine wpList_plain (by rfl) (fun K hK => ?_); go_simp; refine hK _ _ ?_; clear hK K)
      refine wpList_store_row rfl 79 (.tmp 2) (.tmp 29) rfl (w.heap.size + 1) _ rfl rfl 79 #[.int .i64 0, .int .i64 0, .int .i64 0, .int .i64 0, .int .i64 0, .int .i64 0, .int .i64 0, .int .i64 0, .int .i64 0, .int .i64 0, .int .i64 0, .int .i64 0, .slice none 0 0] HZ.out (by kernel_rfl) rfl (by simp [Value.oneCell']) ?_
      refine lay_list (fun W => WkAt k (.slice Av j cv) (w.heap.size + 1) W ∧ TwinM k w.heap.size w W (.slice Av j cv) Ts j ∧ Ext w W) ⟨WkAt.box (k := k) (BoxAt.setRow HZ.out _), HTF.out.row HZ.out (by decide) (by decide) (setRow_but _ _ _), (setRow_but _ _ _).below HX.out (by simp)⟩ ?_
      rintro W ⟨⟨g0, g1, g2, g3, g4, g5, g6, g7, g8, g9, g10, g11, g12⟩, ht, hx⟩
      have HTT := Lib.hid ht
      have HXX := Lib.hid hx
      clear ht hx h0 h1 h2 h3 h4 h5 h6 h7 h8 h9 h10 h11 h12'
      go_wp2_with fail
      refine bodyPost_ret (v := k.val (.slice Av j cv)) (by simp [results, Try.results58, go_sem, WkT.val, g0, g1, g2, g3, g4, g5, g6, g7, g8, g9, g10, g11, g12]) rfl ?_
      exact ⟨_, Ts, rfl, HTT.out, HXX.out⟩
end Go.Proofs.Ytlljhimaopnbfaa
