/- The reference's distance of two lines. Conditions: the slices read as lists; bounds. -/
import Derived.Test.YtlljhimaopnbfaaGFrom
namespace Go.Proofs.Ytlljhimaopnbfaa
open Go.RowKit

set_option maxHeartbeats 1000000 in
theorem refLine_any (v : Value) (xs : List (Int × Int)) (w : World) (hI : spotK.Is w v xs) :
    Calls Try.prog 89 #[v] w fun e w' => e = .returned (.bool (lineB xs)) ∧ w = w' := by
  obtain ⟨A, k, c, rfl, hk, hk0, hr, hkm⟩ := hI.open_
  have HR := Lib.hid hr
  have HK := Lib.hid hk
  have HL := Lib.hid (show lineB xs = (xs.all spotOk && inB 1 12 k) by rw [lineB, hk])
  clear hI hr hk
  go_enter Try.func89, Try.ntmps89
  go_wp2_with fail
  go_loop [3] (fun iv => ∃ j : Nat, j ≤ k ∧ iv = .int .i64 j ∧ Hid (∀ (q : Nat) (hq : q < xs.length), q < j → spotOk xs[q] = true)) (fun iv => k - (intOf iv).toNat)
  case atStart => exact ⟨0, by omega, rfl, (fun q hq h => by omega)⟩
  case round =>
    obtain ⟨j, hj, rfl, Ha⟩ := hrel
    by_cases hlt : j < k
    · have hjl : j < xs.length := by rw [HK.out]; exact hlt
      obtain ⟨b, o, rfl, hb, g0, g1⟩ := spotK_at HR.out hjl
      have HJ := Lib.hid (show spotOk xs[j] = (inB (-10000) 10000 xs[j].1 && inB (-10000) 10000 xs[j].2) from rfl)
      generalize hl1 : xs[j].1 = lx at *
      generalize hl2 : xs[j].2 = ly at *
      have HF := Lib.hid (within_any lx (-10000) 10000 w)
      have HG := Lib.hid (within_any ly (-10000) 10000 w)
      clear hl1 hl2
      cases hv : inB (-10000) 10000 lx
      · have HA2 := Lib.hid (show xs.all spotOk = false from not_all_at hjl (by rw [HJ.out, hv]; rfl))
        rw [hv] at HF
        clear hv
        go_wp2_with fail
        refine HF.out.mono ?_
        rintro e _ ⟨rfl, rfl⟩
        go_wp2_with fail
        go_ret
        exact ⟨by rw [HL.out, HA2.out]; rfl, rfl⟩
      · rw [hv] at HF
        cases hv2 : inB (-10000) 10000 ly
        · have HA2 := Lib.hid (show xs.all spotOk = false from not_all_at hjl (by rw [HJ.out, hv, hv2]; rfl))
          rw [hv2] at HG
          clear hv hv2
          go_wp2_with fail
          refine HF.out.mono ?_
          rintro e _ ⟨rfl, rfl⟩
          go_wp2_with fail
          refine HG.out.mono ?_
          rintro e _ ⟨rfl, rfl⟩
          go_wp2_with fail
          go_ret
          exact ⟨by rw [HL.out, HA2.out]; rfl, rfl⟩
        · have HA2 := Lib.hid (show ∀ (q : Nat) (hq : q < xs.length), q < j + 1 → spotOk xs[q] = true from fun q hq h => by
            rcases (by omega : q < j ∨ q = j) with h | rfl
            · exact Ha.out q hq h
            · rw [HJ.out, hv, hv2]; rfl)
          rw [hv2] at HG
          clear hv hv2
          go_wp2_with fail
          refine HF.out.mono ?_
          rintro e _ ⟨rfl, rfl⟩
          go_wp2_with fail
          refine HG.out.mono ?_
          rintro e _ ⟨rfl, rfl⟩
          go_wp2_with fail
          go_round
          case rel => exact ⟨j + 1, by omega, by go_num, HA2⟩
          case measure => simp [intOf]; omega
    · obtain rfl : j = k := by omega
      have HA2 := Lib.hid (show xs.all spotOk = true from all_upto HK.out Ha.out)
      have HF := Lib.hid (within_any (j : Int) 1 12 w)
      go_wp2_with fail
      refine HF.out.mono ?_
      rintro e _ ⟨rfl, rfl⟩
      go_wp2_with fail
      go_ret
      exact ⟨by rw [HL.out, HA2.out]; rfl, rfl⟩

def pairL (L : Nat) (s : Int × Int) : List (Nat × Nat × Value) := [(L, 0, .int .i64 s.1), (L, 1, .int .i64 s.2)]
theorem st_put1 {D : List Nat} {W0 W : World} {L : Nat} {s : Int × Int} (t : Int × Int) (h : StAt D W0 (pairC L s) W) (hL : L ∈ D) :
    StAt D W0 (pairC L t) ((W.setCell ⟨L, 0, none⟩ (.int .i64 t.1)).setCell ⟨L, 1, none⟩ (.int .i64 t.2)) := by
  obtain ⟨c0, f0⟩ := h.cells (L, 0, .int .i64 s.1) (by simp [pairC])
  obtain ⟨c1, f1⟩ := h.cells (L, 1, .int .i64 s.2) (by simp [pairC])
  simp only at c0 c1 f0 f1
  obtain ⟨e0, e1⟩ := set2 c0 c1 (.int .i64 t.1) (.int .i64 t.2)
  refine ⟨(h.but.setCell hL _).setCell hL _, ?_⟩
  intro y hy
  simp only [pairC, List.mem_cons, List.not_mem_nil, or_false] at hy
  rcases hy with rfl | rfl
  · exact ⟨e0, by simp [f0]⟩
  · exact ⟨e1, by simp [f1]⟩
/-- Four squares lie there. -/
def QuadAt (sb : Nat) (u : Nat → Int × Int) (W : World) : Prop := ∀ q, q < 4 → W.cell? ⟨sb, q * 2, none⟩ = some (.int .i64 (u q).1) ∧ W.cell? ⟨sb, q * 2 + 1, none⟩ = some (.int .i64 (u q).2)
theorem QuadAt.ext {sb : Nat} {u : Nat → Int × Int} {W W' : World} (h : QuadAt sb u W) (x : Ext W W') : QuadAt sb u W' := fun q hq => ⟨x.cell_some (h q hq).1, x.cell_some (h q hq).2⟩
theorem QuadAt.set {sb L o : Nat} {u : Nat → Int × Int} {W : World} (h : QuadAt sb u W) (hne : sb ≠ L) (v : Value) : QuadAt sb u (W.setCell ⟨L, o, none⟩ v) := fun q hq => ⟨(cell_set_other (.inl hne)).trans (h q hq).1, (cell_set_other (.inl hne)).trans (h q hq).2⟩
/-- The rounds so far: what is kept lies in the box L. -/
def FarR (f : Int × Int → Nat → Option (Int × Int)) (s0 : Int × Int) (L : Nat) (W0 : World) (c : Nat) (wr : World) : Prop :=
  ∃ t, (List.range c).foldlM f s0 = some t ∧ SqT t ∧ StAt [L] W0 (pairC L t) wr

set_option maxRecDepth 100000 in
set_option maxHeartbeats 8000000 in
theorem refFar_any (v u : Value) (xs ys : List (Int × Int)) (w : World) (hx : spotK.Is w v xs) (hy : spotK.Is w u ys) (hl : 1 ≤ xs.length ∧ xs.length ≤ 1000) (hl' : 1 ≤ ys.length ∧ ys.length ≤ 1000) (hcx : ∀ s ∈ xs, CoP s) (hcy : ∀ s ∈ ys, CoP s) :
    Calls Try.prog 117 #[v, u] w fun e w' => e = .returned (V2 (farR xs ys).1 (farR xs ys).2) ∧ Ext w w' := by
  obtain ⟨b, o, c, rfl, hc1, hc2, hc3⟩ := spotK_cells hx hl.1
  obtain ⟨b', o', c', rfl, hd1, hd2, hd3⟩ := spotK_cells hy hl'.1
  have hbw : b < w.heap.size := cell_lt (hc3 0 (by omega)).1
  have hbw' : b' < w.heap.size := cell_lt (hd3 0 (by omega)).1
  have HX := Lib.hid hc3
  have HY := Lib.hid hd3
  have HCX := Lib.hid hcx
  have HCY := Lib.hid hcy
  obtain ⟨k, hk⟩ : ∃ k, k = xs.length := ⟨_, rfl⟩
  obtain ⟨k', hk'⟩ : ∃ k', k' = ys.length := ⟨_, rfl⟩
  rw [← hk] at hl hc1 ⊢
  rw [← hk'] at hl' hd1 ⊢
  have HK := Lib.hid hk
  have HK' := Lib.hid hk'
  obtain ⟨hk1, hk2⟩ := hl
  obtain ⟨hk1', hk2'⟩ := hl'
  clear hx hy hc3 hd3 hcx hcy hk hk'
  obtain ⟨N, hN⟩ : ∃ N, N = segN k := ⟨_, rfl⟩
  obtain ⟨N', hN'⟩ : ∃ N', N' = segN k' := ⟨_, rfl⟩
  have hN1 : 1 ≤ N := by rw [hN]; exact segN_pos k
  have hN1' : 1 ≤ N' := by rw [hN']; exact segN_pos k'
  have hm : (if (k : Int) - 1 < 1 then (1 : Int) else (k : Int) - 1) = (N : Int) := by rw [hN]; unfold segN; split <;> omega
  have hm' : (if (k' : Int) - 1 < 1 then (1 : Int) else (k' : Int) - 1) = (N' : Int) := by rw [hN']; unfold segN; split <;> omega
  have HN := Lib.hid hN
  have HN' := Lib.hid hN'
  clear hN hN'
  go_enter Try.func117, Try.ntmps117
  go_wp2_with fail
  refine lay_wp (fun W => Ext w W ∧ W.cell? ⟨w.heap.size, 0, none⟩ = some (.int .i64 0) ∧ W.cell? ⟨w.heap.size, 1, none⟩ = some (.int .i64 0) ∧ W.frozen? ⟨w.heap.size, 0, none⟩ = false ∧ W.frozen? ⟨w.heap.size, 1, none⟩ = false ∧ CellsAt (pairC (w.heap.size + 1) (4611686018427387904, 1)) W ∧ w.heap.size + 1 < W.heap.size)
    ⟨by (repeat' (first | with_reducible exact Ext.refl _ | with_reducible apply Ext.alloc | with_reducible apply Ext.drew | with_reducible apply Ext.drewN | with_reducible refine Ext.setCell ?_ ?_ _ | with_reducible apply Ext.step | with_reducible assumption | with_reducible exact Nat.le_refl _ | (simp; done) | (simp; omega))), by go_cell, by go_cell, by go_simp, by go_simp, by
      intro t ht
      simp only [pairC, List.mem_cons, List.not_mem_nil, or_false] at ht
      rcases ht with rfl | rfl <;> exact ⟨by go_cell, by go_simp⟩, by simp⟩ ?_
  rintro W0 ⟨x0, r0, r1, q0, q1, hcell, hw0⟩
  have HX0 := Lib.hid x0
  have HC0 := Lib.hid hcell
  clear x0 hcell
  go_loopw [6] (fun iv wr => ∃ i : Nat, i ≤ N ∧ iv = .int .i64 i ∧ FarR (farOutR xs ys) (4611686018427387904, 1) (w.heap.size + 1) W0 i wr) (fun iv _ => N - (intOf iv).toNat)
  case atStart => exact ⟨0, by omega, rfl, _, rfl, SqT.start, But.refl _ _, HC0.out⟩
  case round =>
    obtain ⟨i, hi, rfl, hfr⟩ := hrel
    have HFR := Lib.hid hfr
    by_cases hlt : i < N
    · obtain ⟨t, ht, hst, hat⟩ := hfr
      have HT := Lib.hid ht
      have HST := Lib.hid hst
      have HAT := Lib.hid hat
      clear ht hst hat
      go_wp2_with fail
      obtain ⟨wo, rfl⟩ : ∃ wo : World, wo = wr := ⟨_, rfl⟩
      go_loopw [7] (fun iv wr => ∃ j : Nat, j ≤ N' ∧ iv = .int .i64 j ∧ FarR (farInR (sgA xs i) (sgB xs i) ys) t (w.heap.size + 1) W0 j wr) (fun iv _ => N' - (intOf iv).toNat)
      case atStart => exact ⟨0, by omega, rfl, t, rfl, HST.out, HAT.out⟩
      case round =>
        obtain ⟨j, hj, rfl, hfr⟩ := hrel
        have HFR2 := Lib.hid hfr
        by_cases hjl : j < N'
        · obtain ⟨t2, ht2, hst2, hat2⟩ := hfr
          have HT2 := Lib.hid ht2
          have HST2 := Lib.hid hst2
          have HAT2 := Lib.hid hat2
          clear ht2
          have hik : i < k := by have := HN.out; unfold segN at this; omega
          have hjk : j < k' := by have := HN'.out; unfold segN at this; omega
          go_wp2_with fail
          obtain ⟨jb, hjb⟩ : ∃ z, z = min (i + 1) (k - 1) := ⟨_, rfl⟩
          obtain ⟨jd, hjd⟩ : ∃ z, z = min (j + 1) (k' - 1) := ⟨_, rfl⟩
          have hjb1 : jb < k := by omega
          have hjd1 : jd < k' := by omega
          have n1 : (if (k : Int) - 1 < (i : Int) + 1 then (k : Int) - 1 else (i : Int) + 1) = (jb : Int) := by split <;> omega
          have n2 : (if (i : Int) + 1 < (k : Int) - 1 then (i : Int) + 1 else (k : Int) - 1) = (jb : Int) := by split <;> omega
          have n3 : (if (k' : Int) - 1 < (j : Int) + 1 then (k' : Int) - 1 else (j : Int) + 1) = (jd : Int) := by split <;> omega
          have n4 : (if (j : Int) + 1 < (k' : Int) - 1 then (j : Int) + 1 else (k' : Int) - 1) = (jd : Int) := by split <;> omega
          have w1 : IntKind.i64.wrap ((i : Int) + 1) = (i : Int) + 1 := IntWalk.i64_in _ (by omega)
          have w2 : IntKind.i64.wrap ((k : Int) - 1) = (k : Int) - 1 := IntWalk.i64_in _ (by omega)
          have w3 : IntKind.i64.wrap ((j : Int) + 1) = (j : Int) + 1 := IntWalk.i64_in _ (by omega)
          have w4 : IntKind.i64.wrap ((k' : Int) - 1) = (k' : Int) - 1 := IntWalk.i64_in _ (by omega)
          have hil : i < xs.length := by rw [← HK.out]; exact hik
          have hbl : jb < xs.length := by rw [← HK.out]; exact hjb1
          have hcl : j < ys.length := by rw [← HK'.out]; exact hjk
          have hdl : jd < ys.length := by rw [← HK'.out]; exact hjd1
          have sA : xs[i] = sgA xs i := by simp [sgA, hil]
          have sB : xs[jb] = sgB xs i := by
            have : min (i + 1) (xs.length - 1) = jb := by rw [hjb, HK.out]
            simp [sgB, this, hbl]
          have sC : ys[j] = sgA ys j := by simp [sgA, hcl]
          have sD : ys[jd] = sgB ys j := by
            have : min (j + 1) (ys.length - 1) = jd := by rw [hjd, HK'.out]
            simp [sgB, this, hdl]
          have hX : ∀ {bb oo : Nat} {vv : Value}, bb < w.heap.size → w.cell? ⟨bb, oo, none⟩ = some vv → wr.cell? ⟨bb, oo, none⟩ = some vv := fun hb h => hat2.but.cell (HX0.out.cell_some h) (by simp <;> omega)
          have a0 := hX hbw (HX.out i hil).1
          have a1 := hX hbw (HX.out i hil).2
          have a2 := hX hbw (HX.out jb hbl).1
          have a3 := hX hbw (HX.out jb hbl).2
          have a4 := hX hbw' (HY.out j hcl).1
          have a5 := hX hbw' (HY.out j hcl).2
          have a6 := hX hbw' (HY.out jd hdl).1
          have a7 := hX hbw' (HY.out jd hdl).2
          rw [sA] at a0 a1
          rw [sB] at a2 a3
          rw [sC] at a4 a5
          rw [sD] at a6 a7
          have cA := sgA_co HCX.out i
          have cB := sgB_co HCX.out i
          have cC := sgA_co HCY.out j
          have cD := sgB_co HCY.out j
          obtain ⟨fo, hfo⟩ : ∃ z, z = farInR (sgA xs i) (sgB xs i) ys t2 j := ⟨_, rfl⟩
          have HFN := Lib.hid (show fo = none → farOutR xs ys t i = none from fun h => by
            rw [farOutR, ← HK'.out, ← HN'.out]
            exact foldM_stop (c := j + 1) hjl (by rw [foldM_succ HT2.out, ← hfo, h]))
          have HFS := Lib.hid (show ∀ t', fo = some t' → (List.range (j + 1)).foldlM (farInR (sgA xs i) (sgB xs i) ys) t = some t' from fun t' h => by rw [foldM_succ HT2.out, ← hfo, h])
          rw [farInR] at hfo
          have lb := cell_lt a0
          have lb' := cell_lt a4
          clear hX sA sB sC sD hjb hjd hst2 hat2 hil hbl hcl hdl
          obtain ⟨⟨ax, ay⟩, hA⟩ : ∃ p, sgA xs i = p := ⟨_, rfl⟩
          obtain ⟨⟨bx, by'⟩, hB⟩ : ∃ p, sgB xs i = p := ⟨_, rfl⟩
          obtain ⟨⟨cx, cy⟩, hC⟩ : ∃ p, sgA ys j = p := ⟨_, rfl⟩
          obtain ⟨⟨dx, dy⟩, hD⟩ : ∃ p, sgB ys j = p := ⟨_, rfl⟩
          rw [hA] at a0 a1 cA hfo
          rw [hB] at a2 a3 cB hfo
          rw [hC] at a4 a5 cC hfo
          rw [hD] at a6 a7 cD hfo
          have HFO := Lib.hid hfo
          clear hfo hA hB hC hD
          simp only at a0 a1 a2 a3 a4 a5 a6 a7
          refine wp_region_mk ([⟨13, 15, 8, 76, #[.int .i64 0, .int .i64 0], 34⟩, ⟨14, 16, 9, 76, #[.int .i64 0, .int .i64 0], 43⟩]) (by kernel_rfl) (by kernel_rfl) ?_ ?_
          · intro m hm o ho ρ W
            simp only [List.mem_cons, List.not_mem_nil, or_false] at hm
            rcases hm with rfl | rfl <;> (cases ho; go_simp)
          repeat (any_goals (first | (refine wpX_skip (by rfl) ?_) | (refine wpX_pass (by rfl) (by rfl) ?_) | (refine wpX_stepK (by rfl) (by rfl) (fun K hK => ?_); go_simp; first | (refine hK _ ?_; clear hK K) | (apply Exists.intro; refine ⟨fun δ => ?_, hK _ ?_⟩; (focus fail); clear hK K))))
          all_goals refine wpX_nil ⟨?_, ?_⟩
          any_goals (intro m hm; simp only [List.mem_cons, List.not_mem_nil, or_false] at hm; rcases hm with rfl | rfl <;> exact ⟨by kernel_rfl, rfl, by simp [Value.cells, Value.oneCell']⟩)
          all_goals refine mk_two (by decide) ?_
          rintro b8 b9 δ hb8 hb9 hne m8 m9
          have X1 : Ext wr δ.wd := ⟨δ, rfl⟩
          have k0 : δ.wd.cell? ⟨b8, 0, none⟩ = some (.int .i64 ax) := (m8.cell 0).trans (by simp [Value.cells])
          have k1 : δ.wd.cell? ⟨b8, 1, none⟩ = some (.int .i64 ay) := (m8.cell 1).trans (by simp [Value.cells])
          have k2 : δ.wd.cell? ⟨b9, 0, none⟩ = some (.int .i64 bx) := (m9.cell 0).trans (by simp [Value.cells])
          have k3 : δ.wd.cell? ⟨b9, 1, none⟩ = some (.int .i64 by') := (m9.cell 1).trans (by simp [Value.cells])
          replace a4 := X1.cell_some a4
          replace a5 := X1.cell_some a5
          replace a6 := X1.cell_some a6
          replace a7 := X1.cell_some a7
          replace lb' := cell_lt a4
          have HX1 := Lib.hid X1
          generalize δ.wd = W1 at *
          clear a0 a1 a2 a3 lb m8 m9 hb8 hb9 hne X1 n1 n2 w1 w2
          go_wp2_with fail
          try go_frame
          refine wp_region_mk ([⟨13, 15, 10, 76, #[.int .i64 0, .int .i64 0], 47⟩, ⟨14, 16, 11, 76, #[.int .i64 0, .int .i64 0], 56⟩]) (by kernel_rfl) (by kernel_rfl) ?_ ?_
          · intro m hm o ho ρ W
            simp only [List.mem_cons, List.not_mem_nil, or_false] at hm
            rcases hm with rfl | rfl <;> (cases ho; go_simp)
          repeat (any_goals (first | (refine wpX_skip (by rfl) ?_) | (refine wpX_pass (by rfl) (by rfl) ?_) | (refine wpX_stepK (by rfl) (by rfl) (fun K hK => ?_); go_simp; first | (refine hK _ ?_; clear hK K) | (apply Exists.intro; refine ⟨fun δ => ?_, hK _ ?_⟩; (focus fail); clear hK K))))
          all_goals refine wpX_nil ⟨?_, ?_⟩
          any_goals (intro m hm; simp only [List.mem_cons, List.not_mem_nil, or_false] at hm; rcases hm with rfl | rfl <;> exact ⟨by kernel_rfl, rfl, by simp [Value.cells, Value.oneCell']⟩)
          all_goals refine mk_two (by decide) ?_
          rintro b10 b11 δ hb10 hb11 hne m10 m11
          have X1 : Ext W1 δ.wd := ⟨δ, rfl⟩
          have k4 : δ.wd.cell? ⟨b10, 0, none⟩ = some (.int .i64 cx) := (m10.cell 0).trans (by simp [Value.cells])
          have k5 : δ.wd.cell? ⟨b10, 1, none⟩ = some (.int .i64 cy) := (m10.cell 1).trans (by simp [Value.cells])
          have k6 : δ.wd.cell? ⟨b11, 0, none⟩ = some (.int .i64 dx) := (m11.cell 0).trans (by simp [Value.cells])
          have k7 : δ.wd.cell? ⟨b11, 1, none⟩ = some (.int .i64 dy) := (m11.cell 1).trans (by simp [Value.cells])
          replace k0 := X1.cell_some k0
          replace k1 := X1.cell_some k1
          replace k2 := X1.cell_some k2
          replace k3 := X1.cell_some k3
          have HX2 := Lib.hid (HX1.out.trans X1)
          generalize δ.wd = W2 at *
          clear a4 a5 a6 a7 lb' m10 m11 hb10 hb11 hne X1 n3 n4 w3 w4
          have l0 := cell_lt k0
          have l1 := cell_lt k2
          have l2 := cell_lt k4
          have l3 := cell_lt k6
          have HME := fun W : World => meet_any ax ay bx by' cx cy dx dy W cA.x cA.y cB.x cB.y cC.x cC.y cD.x cD.y
          cases hv : meetB ax ay bx by' cx cy dx dy
          · have hfo := Lib.hid (show fo = some (fourR t2 (ax, ay) (bx, by') (cx, cy) (dx, dy)) by rw [HFO.out]; exact if_neg (by simpa [meetB, apartP] using hv))
            rw [hv] at HME
            have HM := Lib.hid HME
            clear hv HME
            go_wp2_with fail
            try go_frame
            refine (HM.out _).mono ?_
            rintro e W3 ⟨rfl, x3⟩
            replace k0 := x3.cell_some k0
            replace k1 := x3.cell_some k1
            replace k2 := x3.cell_some k2
            replace k3 := x3.cell_some k3
            replace k4 := x3.cell_some k4
            replace k5 := x3.cell_some k5
            replace k6 := x3.cell_some k6
            replace k7 := x3.cell_some k7
            replace l0 := cell_lt k0
            replace l1 := cell_lt k2
            replace l2 := cell_lt k4
            replace l3 := cell_lt k6
            have HX3 := Lib.hid (HX2.out.trans x3)
            clear x3
            go_wp2_with fail
            try go_frame
            obtain ⟨u, hu⟩ : ∃ u, u = quad (spotR (ax, ay) (cx, cy) (dx, dy)) (spotR (bx, by') (cx, cy) (dx, dy)) (spotR (cx, cy) (ax, ay) (bx, by')) (spotR (dx, dy) (ax, ay) (bx, by')) := ⟨_, rfl⟩
            have HUB := Lib.hid (show ∀ i, SqT (u i) by rw [hu]; exact quad_kept (spotP_bd cA cC cD).low (spotP_bd cB cC cD).low (spotP_bd cC cA cB).low (spotP_bd cD cA cB).low)
            have HF3 := Lib.hid (show fo = some (takesR t2 u 4) by rw [hfo.out, hu]; rfl)
            have HS1 := fun W : World => fromSegment_any ax ay cx cy dx dy W cA.x cA.y cC.x cC.y cD.x cD.y
            have HS2 := fun W : World => fromSegment_any bx by' cx cy dx dy W cB.x cB.y cC.x cC.y cD.x cD.y
            have HS3 := fun W : World => fromSegment_any cx cy ax ay bx by' W cC.x cC.y cA.x cA.y cB.x cB.y
            have HS4 := fun W : World => fromSegment_any dx dy ax ay bx by' W cD.x cD.y cA.x cA.y cB.x cB.y
            obtain ⟨f0, hf0⟩ : ∃ z, z = lowF (spotN ax ay cx cy dx dy) (spotD ax ay cx cy dx dy) := ⟨_, rfl⟩
            obtain ⟨f1, hf1⟩ : ∃ z, z = lowF (spotN bx by' cx cy dx dy) (spotD bx by' cx cy dx dy) := ⟨_, rfl⟩
            obtain ⟨f2, hf2⟩ : ∃ z, z = lowF (spotN cx cy ax ay bx by') (spotD cx cy ax ay bx by') := ⟨_, rfl⟩
            obtain ⟨f3, hf3⟩ : ∃ z, z = lowF (spotN dx dy ax ay bx by') (spotD dx dy ax ay bx by') := ⟨_, rfl⟩
            rw [← hf0] at HS1
            rw [← hf1] at HS2
            rw [← hf2] at HS3
            rw [← hf3] at HS4
            have HU := Lib.hid (show u = quad f0 f1 f2 f3 by rw [hu, hf0, hf1, hf2, hf3]; rfl)
            have HT1 := Lib.hid HS1
            have HT2' := Lib.hid HS2
            have HT3 := Lib.hid HS3
            have HT4 := Lib.hid HS4
            clear HS1 HS2 HS3 HS4 hu hf0 hf1 hf2 hf3 HFO hfo
            have q0 := But.cells (D := []) k0 (by simp)
            have q1 := But.cells (D := []) k1 (by simp)
            have q2 := But.cells (D := []) k2 (by simp)
            have q3 := But.cells (D := []) k3 (by simp)
            have q4 := But.cells (D := []) k4 (by simp)
            have q5 := But.cells (D := []) k5 (by simp)
            have q6 := But.cells (D := []) k6 (by simp)
            have q7 := But.cells (D := []) k7 (by simp)
            refine (wpIn_wide (n := 3)).1 ?_
            refine wpIn_region_steps [] 17 [(0, true), (1, true), (2, true), (3, true), (4, true), (5, true), (6, true), (7, true), (8, true), (9, true), (10, true), (11, true), (12, true), (13, true), (14, true), (15, true), (16, false)] (by kernel_rfl) (by kernel_rfl) ?_
            iterate 3 (refine wpSD_q (by rfl) (fun _ _ _ => trivial) (fun K hK => ?_); go_simp; refine hK _ ?_; clear hK K)
            refine wpSD_q (by rfl) (fun _ _ _ => trivial) (fun K hK => ?_)
            go_simp
            refine ⟨_, fun δ => callsIn_wide.2 (HT1.out δ.wd), hK _ ?_⟩
            clear hK K
            iterate 3 (refine wpSD_q (by rfl) (fun _ _ _ => trivial) (fun K hK => ?_); go_simp; refine hK _ ?_; clear hK K)
            refine wpSD_q (by rfl) (fun _ _ _ => trivial) (fun K hK => ?_)
            go_simp
            refine ⟨_, fun δ => callsIn_wide.2 (HT2'.out δ.wd), hK _ ?_⟩
            clear hK K
            iterate 3 (refine wpSD_q (by rfl) (fun _ _ _ => trivial) (fun K hK => ?_); go_simp; refine hK _ ?_; clear hK K)
            refine wpSD_q (by rfl) (fun _ _ _ => trivial) (fun K hK => ?_)
            go_simp
            refine ⟨_, fun δ => callsIn_wide.2 (HT3.out δ.wd), hK _ ?_⟩
            clear hK K
            iterate 3 (refine wpSD_q (by rfl) (fun _ _ _ => trivial) (fun K hK => ?_); go_simp; refine hK _ ?_; clear hK K)
            refine wpSD_q (by rfl) (fun _ _ _ => trivial) (fun K hK => ?_)
            go_simp
            refine ⟨_, fun δ => callsIn_wide.2 (HT4.out δ.wd), hK _ ?_⟩
            clear hK K
            refine wpSD_m (by rfl) (fun _ _ _ => trivial) (fun δ K hK => ?_)
            go_simp
            refine ⟨((Ext.refl _).alloc _).but, hK _ _ ?_⟩
            clear hK K
            refine wpSD_nil ?_
            intro W5 x5
            simp only [List.drop_succ_cons, List.drop_zero]
            have hq5 : QuadAt δ.wd.heap.size u W5 := by
              rw [HU.out]
              intro q hq
              rcases (by omega : q = 0 ∨ q = 1 ∨ q = 2 ∨ q = 3) with rfl | rfl | rfl | rfl <;> exact ⟨x5.cell_some (by simp only [quad]; go_cell), x5.cell_some (by simp only [quad]; go_cell)⟩
            have HX5 := Lib.hid (show Ext wr W5 from HX3.out.trans (Ext.trans ⟨δ, rfl⟩ ((Ext.alloc (Ext.refl _) _).trans x5)))
            have hsb : W0.heap.size ≤ δ.wd.heap.size := Nat.le_trans HAT2.out.but.size (Nat.le_trans HX3.out.bel.size (Ext.bel ⟨δ, rfl⟩).size)
            have HQ5 := Lib.hid hq5
            generalize δ.wd.heap.size = sb at *
            clear q0 q1 q2 q3 q4 q5 q6 q7 k0 k1 k2 k3 k4 k5 k6 k7 l0 l1 l2 l3 HT1 HT2' HT3 HT4 x5 hq5 HX3 HX2 HX1
            gi_wp2
            go_wp2_with fail
            obtain ⟨wo2, rfl⟩ : ∃ wo : World, wo = wr := ⟨_, rfl⟩
            go_loopw [13] (fun iv wr => ∃ q : Nat, q ≤ 4 ∧ iv = .int .i64 q ∧ StAt [w.heap.size + 1] W0 (pairC (w.heap.size + 1) (takesR t2 u q)) wr ∧ QuadAt sb u wr) (fun iv _ => 4 - (intOf iv).toNat)
            case atStart => exact ⟨0, by omega, rfl, HAT2.out.ext HX5.out, HQ5.out⟩
            case round =>
              obtain ⟨q, hq, rfl, hst, hqa⟩ := hrel
              have HSR := Lib.hid hst
              have HQR := Lib.hid hqa
              by_cases hql : q < 4
              · obtain ⟨c0, f0'⟩ := hst.cells (w.heap.size + 1, 0, .int .i64 (takesR t2 u q).1) (by simp [pairC])
                obtain ⟨c1, f1'⟩ := hst.cells (w.heap.size + 1, 1, .int .i64 (takesR t2 u q).2) (by simp [pairC])
                obtain ⟨d0, d1⟩ := hqa q hql
                have hs1 := takesR_kept HST2.out HUB.out q
                have hs2 := HUB.out q
                have HTN := Lib.hid (show takesR t2 u (q + 1) = if lessF (u q) (takesR t2 u q) then u q else takesR t2 u q from rfl)
                obtain ⟨tn, htn⟩ : ∃ tn, tn = takesR t2 u (q + 1) := ⟨_, rfl⟩
                rw [← htn] at HTN
                have HTE := Lib.hid htn
                have HLS := fun W : World => refLess_any (u q).1 (u q).2 (takesR t2 u q).1 (takesR t2 u q).2 W hs2.n0 hs2.n1 hs2.d0 (by have := hs2.d1; omega) hs1.n0 hs1.n1 hs1.d0 (by have := hs1.d1; omega)
                generalize takesR t2 u q = si at *
                generalize u q = ui at *
                obtain ⟨sn, sd⟩ := si
                obtain ⟨un, ud⟩ := ui
                simp only at c0 c1 f0' f1' d0 d1
                have lL := cell_lt c0
                have lS := cell_lt d0
                clear hst hqa hs1 hs2 htn
                cases hl : decide (un * sd < sn * ud)
                · have HTV := Lib.hid (show tn = (sn, sd) by rw [HTN.out]; simp only [lessF, hl]; rfl)
                  simp only [hl] at HLS
                  have HLL := Lib.hid HLS
                  clear hl HLS
                  go_wp2_with fail
                  refine wp_region_bext (by kernel_rfl) (by kernel_rfl) ?_
                  repeat (any_goals (go_big_quiet_step ((go_at_call 133; with_reducible exact bext_call (HLL.out _)))))
                  all_goals refine wpQuiet_nil ?_
                  all_goals rintro _ ⟨δ, rfl⟩
                  have HX6 := Lib.hid (show Ext wr δ.wd from ⟨δ, rfl⟩)
                  generalize δ.wd = W6 at *
                  go_wp2_with fail
                  go_roundw
                  case rel => exact ⟨q + 1, by omega, by go_num, by rw [← HTE.out, HTV.out]; exact HSR.out.ext HX6.out, HQR.out.ext HX6.out⟩
                  case measure => simp [intOf]; omega
                · have HTV := Lib.hid (show tn = (un, ud) by rw [HTN.out]; simp only [lessF, hl]; rfl)
                  simp only [hl] at HLS
                  have HLL := Lib.hid HLS
                  clear hl HLS
                  go_wp2_with fail
                  refine wp_region_bext (by kernel_rfl) (by kernel_rfl) ?_
                  repeat (any_goals (go_big_quiet_step ((go_at_call 133; with_reducible exact bext_call (HLL.out _)))))
                  all_goals refine wpQuiet_nil ?_
                  all_goals rintro _ ⟨δ, rfl⟩
                  have X6 : Ext wr δ.wd := ⟨δ, rfl⟩
                  replace f0' := X6.frozen c0 f0'
                  replace f1' := X6.frozen c1 f1'
                  replace c0 := X6.cell_some c0
                  replace c1 := X6.cell_some c1
                  replace d0 := X6.cell_some d0
                  replace d1 := X6.cell_some d1
                  replace lL := cell_lt c0
                  replace lS := cell_lt d0
                  have HX6 := Lib.hid X6
                  generalize δ.wd = W6 at *
                  clear X6
                  go_wp2_with fail
                  go_roundw
                  case rel =>
                    refine ⟨q + 1, by omega, by go_num, ?_, ?_⟩
                    · rw [← HTE.out, HTV.out]
                      exact st_put1 (un, ud) (HSR.out.ext HX6.out) (by simp)
                    · have hne : sb ≠ w.heap.size + 1 := by omega
                      exact ((HQR.out.ext HX6.out).set hne _).set hne _
                  case measure => simp [intOf]; omega
              · obtain rfl : q = 4 := by omega
                have HK4 := Lib.hid (show FarR (farInR (sgA xs i) (sgB xs i) ys) t (w.heap.size + 1) W0 (j + 1) wr from ⟨_, HFS.out _ HF3.out, takesR_kept HST2.out HUB.out 4, hst⟩)
                clear hst hqa
                go_wp2_with fail
                go_roundw
                case rel => exact ⟨j + 1, by omega, by go_num, HK4.out⟩
                case measure => simp [intOf]; omega
          · have hfo := Lib.hid (show fo = none by rw [HFO.out]; exact if_pos (by simpa [meetB, apartP] using hv))
            rw [hv] at HME
            have HM := Lib.hid HME
            clear hv HME
            go_wp2_with fail
            try go_frame
            refine (HM.out _).mono ?_
            rintro e W3 ⟨rfl, x3⟩
            have HX3 := Lib.hid (HX2.out.trans x3)
            have e0 := HX3.out.cell_some (HAT2.out.but.cell r0 (by simp <;> omega))
            have e1 := HX3.out.cell_some (HAT2.out.but.cell r1 (by simp <;> omega))
            have g0 := HX3.out.frozen (HAT2.out.but.cell r0 (by simp <;> omega)) (HAT2.out.but.frozen r0 q0 (by simp <;> omega))
            have g1 := HX3.out.frozen (HAT2.out.but.cell r1 (by simp <;> omega)) (HAT2.out.but.frozen r1 q1 (by simp <;> omega))
            have le := cell_lt e0
            clear x3 k0 k1 k2 k3 k4 k5 k6 k7 l0 l1 l2 l3 r0 r1 q0 q1
            go_wp2_with fail
            have z0 := cell_set_same (u := .int .i64 0) e0
            have z1 := (set2 e0 e1 (.int .i64 0) (.int .i64 1)).2
            have HFR3 := Lib.hid (show farR xs ys = (0, 1) by
              have h1 := HFN.out hfo.out
              rw [farR, ← HK.out, ← HN.out, foldM_stop (c := i + 1) hlt (by rw [foldM_succ HT.out, h1])]
              rfl)
            exact bodyPost_ret (v := V2 0 1) (by simp [results, Try.results117, go_sem, z0, z1]) rfl ⟨by rw [HFR3.out], ((((HAT2.out.but.below HX0.out (by simp <;> omega)).trans HX3.out).setCell (by simp) _).setCell (by simp) _)⟩
        · obtain rfl : j = N' := by omega
          have HK4 := Lib.hid (show FarR (farOutR xs ys) (4611686018427387904, 1) (w.heap.size + 1) W0 (i + 1) wr by
            obtain ⟨t2, h1, h2, h3⟩ := hfr
            exact ⟨t2, by rw [foldM_succ HT.out, farOutR, ← HK'.out, ← HN'.out]; exact h1, h2, h3⟩)
          clear hfr
          go_wp2_with fail
          go_roundw
          case rel => exact ⟨i + 1, by omega, by go_num, HK4.out⟩
          case measure => simp [intOf]; omega
    · obtain rfl : i = N := by omega
      obtain ⟨t, ht, hst, hat⟩ := hfr
      have HF := Lib.hid (show farR xs ys = t by rw [farR, ← HK.out, ← HN.out, ht]; rfl)
      obtain ⟨c0, -⟩ := hat.cells (w.heap.size + 1, 0, .int .i64 t.1) (by simp [pairC])
      obtain ⟨c1, -⟩ := hat.cells (w.heap.size + 1, 1, .int .i64 t.2) (by simp [pairC])
      have e0 := hat.but.cell r0 (by simp <;> omega)
      have e1 := hat.but.cell r1 (by simp <;> omega)
      have g0 := hat.but.frozen r0 q0 (by simp <;> omega)
      have g1 := hat.but.frozen r1 q1 (by simp <;> omega)
      have HAT := Lib.hid hat
      obtain ⟨tn, td⟩ := t
      simp only at c0 c1
      have le := cell_lt e0
      have lc := cell_lt c0
      clear ht hst hat r0 r1 q0 q1 hi
      go_wp2_with fail
      have z0 := cell_set_same (u := .int .i64 tn) e0
      have z1 := (set2 e0 e1 (.int .i64 tn) (.int .i64 td)).2
      exact bodyPost_ret (v := V2 tn td) (by simp [results, Try.results117, go_sem, z0, z1]) rfl ⟨by rw [HF.out], (((HAT.out.but.below HX0.out (by simp <;> omega)).setCell (by simp) _).setCell (by simp) _)⟩
end Go.Proofs.Ytlljhimaopnbfaa
