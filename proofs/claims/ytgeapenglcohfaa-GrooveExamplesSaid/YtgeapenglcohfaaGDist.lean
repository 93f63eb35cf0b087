/- groove's near, Distance, Apart. Conditions: the slices read as lists. -/
import Derived.Test.YtgeapenglcohfaaQTail
import Derived.Test.YtgeapenglcohfaaLay
import Derived.Test.YtgeapenglcohfaaGFarP
namespace Go.Proofs.Ytgeapenglcohfaa
section
/- GFar: groove's distance of two paths. Conditions: the slices read as lists of at least one spot; bounds of the coordinates. -/
section
/- QB: A region that draws its order, in a round of a range over a function: it only reads what lay there, and its callees make blocks of their own; one walk in the order of the text. Condition: no defer statement in it. -/
open Go.RowKit

section
variable {F : Fence} {n : Nat} {P : Program}
theorem wpIn_region_bextR {id : Nat} {Q : Exit → Act → World → Prop} {a : Act} {w : World} {l : List Oper} (hnd : l.toArray.all noDefer = true) (hm : P.follows .mixedOrders = true) (hB : Region.lexB .any l.toArray = true)
    (h : wpQuietIn F n P l.toArray (fun w' => ∃ δ : BExt w, w' = δ.wd) (fun a' => ∀ w', Ext w w' → Q .normal a' w') l a) : (Code.region id l.toArray true).wpIn F n P Q a w := by
  simp only [Region.lexB, Bool.and_eq_true] at hB
  refine wpIn_region_any hm (wpAnyIn_of_qR (C := fun w' => ∃ δ : BExt w, w' = δ.wd) (Q := fun a' => ∀ w', Ext w w' → Q .normal a' w') hnd (fun _ w' hw' h => h w' hw') _ _ _ _ ⟨⟨{ w with drawn := w.drawn + 1 }, ⟨rfl, rfl, rfl, Nat.le_refl _, fun _ _ => rfl⟩⟩, rfl⟩ ?_)
  have := wpAnyQIn_lex (F := F) (n := n) (C := fun w' => ∃ δ : BExt w, w' = δ.wd) (md := .any) hB.1 l 0 (Array.replicate l.toArray.size false) a (by simp) (by simpa using hB.2) h
  simpa using this
/-- A callee's contract, met in such a region. -/
theorem bextR_call {f : FuncId} {args : Array Value} {w : World} {δ : BExt w} {v : Value}
    (h : CallsIn F n P f args δ.wd fun e w' => e = .returned v ∧ Ext δ.wd w') : CallsIn F n P f args δ.wd fun e w'' => e = .returned v ∧ ∃ δ' : BExt w, w'' = δ'.wd :=
  h.mono fun _ _ ⟨he, hb⟩ => ⟨he, (Ext.step (Ext.refl w) δ).trans hb⟩
end
end
open Go.RowKit

theorem run_store_func {P : Program} {w : World} {a : Addr} {m : Mode} (f : Fn) (x y : Array Value) : (store a (.func f x y) m).run P w = stored P w a (.func f x y) m := run_store P w a _ m rfl
attribute [local go_sem] Oper.semAt_some run_store_func

def pairC (L : Nat) (s : Int × Int) : List (Nat × Nat × Value) := [(L, 0, .int .i64 s.1), (L, 1, .int .i64 s.2)]

theorem st_put {D : List Nat} {W0 W W1 : World} {L R : Nat} {s : Int × Int} (t : Int × Int) (h : StAt D W0 (pairC L s ++ pairC R (0, 0)) W) (hL : L ∈ D) (hne : R ≠ L) (x : Ext W W1) :
    StAt D W0 (pairC L t ++ pairC R (0, 0)) ((W1.setCell ⟨L, 0, none⟩ (.int .i64 t.1)).setCell ⟨L, 1, none⟩ (.int .i64 t.2)) := by
  have h1 := h.ext x
  obtain ⟨c0, f0⟩ := h1.cells (L, 0, .int .i64 s.1) (by simp [pairC])
  obtain ⟨c1, f1⟩ := h1.cells (L, 1, .int .i64 s.2) (by simp [pairC])
  obtain ⟨r0, q0⟩ := h1.cells (R, 0, .int .i64 0) (by simp [pairC])
  obtain ⟨r1, q1⟩ := h1.cells (R, 1, .int .i64 0) (by simp [pairC])
  simp only at c0 c1 r0 r1 f0 f1 q0 q1
  obtain ⟨e0, e1⟩ := set2 c0 c1 (.int .i64 t.1) (.int .i64 t.2)
  refine ⟨(h1.but.setCell hL _).setCell hL _, ?_⟩
  intro y hy
  simp only [pairC, List.mem_append, List.mem_cons, List.not_mem_nil, or_false] at hy
  rcases hy with (rfl | rfl) | (rfl | rfl)
  · exact ⟨e0, by simp [f0]⟩
  · exact ⟨e1, by simp [f1]⟩
  · exact ⟨(cell_set_other (.inl hne)).trans ((cell_set_other (.inl hne)).trans r0), by simp [q0]⟩
  · exact ⟨(cell_set_other (.inl hne)).trans ((cell_set_other (.inl hne)).trans r1), by simp [q1]⟩

set_option maxRecDepth 100000 in
set_option maxHeartbeats 8000000 in
theorem far_any (b o k c b' o' k' c' : Nat) (xs ys : List (Int × Int)) (w : World) (hk : xs.length = k) (hk1 : 1 ≤ k) (hk2 : k ≤ 1000) (hkc : k ≤ c) (hcm : c ≤ maxLen) (hk' : ys.length = k') (hk1' : 1 ≤ k') (hk2' : k' ≤ 1000) (hkc' : k' ≤ c') (hcm' : c' ≤ maxLen)
    (hx : ∀ i (h : i < xs.length), w.cell? ⟨b, o + i * 2, none⟩ = some (.int .i64 xs[i].1) ∧ w.cell? ⟨b, o + i * 2 + 1, none⟩ = some (.int .i64 xs[i].2)) (hy : ∀ i (h : i < ys.length), w.cell? ⟨b', o' + i * 2, none⟩ = some (.int .i64 ys[i].1) ∧ w.cell? ⟨b', o' + i * 2 + 1, none⟩ = some (.int .i64 ys[i].2))
    (hcx : ∀ s ∈ xs, CoP s) (hcy : ∀ s ∈ ys, CoP s) :
    Calls Try.prog 74 #[.slice (some ⟨b, o, none⟩) k c, .slice (some ⟨b', o', none⟩) k' c'] w fun e w' => e = .returned (V2 (farL xs ys).1 (farL xs ys).2) ∧ Ext w w' := by
  have hbw : b < w.heap.size := cell_lt (hx 0 (by omega)).1
  have hbw' : b' < w.heap.size := cell_lt (hy 0 (by omega)).1
  have HX := Lib.hid hx
  have HY := Lib.hid hy
  have HCX := Lib.hid hcx
  have HCY := Lib.hid hcy
  have HK := Lib.hid hk
  have HK' := Lib.hid hk'
  clear hx hy hcx hcy hk hk'
  refine (callsIn_wide (n := 6)).1 ?_
  refine callsIn_of_wp_marks Try.func74 rfl trivial ?_ rfl
  simp only [Try.ntmps74, List.size_toArray, List.length_cons, List.length_nil, Nat.reduceAdd, Nat.reduceSub, Array.replicate_succ, Array.replicate_zero, List.push_toArray, List.append_toArray, List.nil_append, List.cons_append]
  have F1 : Fence.wide.fn 97 := trivial
  have F2 : Fence.wide.fn 98 := trivial
  have F3 : Fence.wide.fn 99 := trivial
  have F4 : Fence.wide.fn 96 := trivial
  gi_wp2
  refine (segments_in Fence.wide 5 trivial rfl _ _ _ _).mono ?_
  rintro e _ ⟨rfl, rfl⟩
  gi_wp2
  refine lay_in (fun W => Ext w W ∧ W.heap.size = w.heap.size + 5 ∧ W.cell? ⟨w.heap.size, 0, none⟩ = some (.slice (some ⟨b', o', none⟩) k' c') ∧ W.cell? ⟨w.heap.size + 1 + 1 + 1, 0, none⟩ = some (.func (.func 96) #[] #[]) ∧
    W.cell? ⟨w.heap.size + 1 + 1 + 1 + 1, 0, none⟩ = some (.slice (some ⟨b, o, none⟩) k c) ∧ CellsAt (pairC (w.heap.size + 1 + 1) (1, 0) ++ pairC (w.heap.size + 1) (0, 0)) W)
    ⟨by (repeat' (first | with_reducible exact Ext.refl _ | with_reducible apply Ext.alloc | with_reducible apply Ext.drew | with_reducible apply Ext.drewN | with_reducible refine Ext.setCell ?_ ?_ _ | with_reducible apply Ext.step | with_reducible assumption | with_reducible exact Nat.le_refl _ | (simp; done) | (simp; omega))), by simp, by go_cell, by go_cell, by go_cell, by
      intro t ht
      simp only [pairC, List.mem_append, List.mem_cons, List.not_mem_nil, or_false] at ht
      rcases ht with (rfl | rfl) | (rfl | rfl) <;> exact ⟨by go_cell, by go_simp⟩⟩ ?_
  rintro W0 ⟨x0, hs0, cq, cf, cp, hcell⟩
  have HX0 := Lib.hid x0
  have HP0 := Lib.hid (show PathAt W0 [w.heap.size + 1, w.heap.size + 1 + 1] (w.heap.size + 1 + 1 + 1 + 1) b o k c xs from ⟨cp, HK.out, hk1, hkc, hcm, hk2, fun i h => ⟨x0.cell_some (HX.out i h).1, x0.cell_some (HX.out i h).2⟩, by simp <;> omega, by simp; omega⟩)
  have HC0 := Lib.hid hcell
  clear x0 hcell
  refine wpIn_range_out (N := segN k) (fun s => pairC (w.heap.size + 1 + 1) s ++ pairC (w.heap.size + 1) (0, 0)) (farOut xs ys) (1, 0) (fun W => CellsAt (pairC (w.heap.size + 1) (0, 1)) W) [w.heap.size + 1, w.heap.size + 1 + 1] rfl (by decide) (gf := 108) (lb := #[.pointer (some ⟨w.heap.size + 1 + 1 + 1 + 1, 0, none⟩)]) rfl trivial (enters_of Try.func108 (by kernel_rfl) rfl)
    (segs_seq 5 (by decide) _ _ b o k c xs W0 HP0.out) (fun _ => rfl) (fun d hd => by simp at hd; omega) HC0.out (fun _ _ _ _ hs hg hr => hs.grown hg (fun r e => (hr r e).2)) ?Ax ?hAx ?assign ?body ?done ?stop
  case done =>
    intro M s W hM hf hst hmark
    have HF := Lib.hid (show farL xs ys = s by rw [farL, HK.out, hf]; rfl)
    have HST := Lib.hid hst
    have HM := Lib.hid hmark
    obtain ⟨c0, _⟩ := hst.cells (w.heap.size + 1 + 1, 0, .int .i64 s.1) (by simp [pairC])
    obtain ⟨c1, _⟩ := hst.cells (w.heap.size + 1 + 1, 1, .int .i64 s.2) (by simp [pairC])
    obtain ⟨r0, f0⟩ := hst.cells (w.heap.size + 1, 0, .int .i64 0) (by simp [pairC])
    obtain ⟨r1, f1⟩ := hst.cells (w.heap.size + 1, 1, .int .i64 0) (by simp [pairC])
    simp only at c0 c1 r0 r1 f0 f1
    have lc := cell_lt c0
    have lr := cell_lt r0
    clear hf hst hmark
    gi_wp2
    have hset := set2 r0 r1 (.int .i64 s.1) (.int .i64 s.2)
    have hm2 : ∀ D' ∈ [M], ((W.setCell ⟨w.heap.size + 1, 0, none⟩ (.int .i64 s.1)).setCell ⟨w.heap.size + 1, 1, none⟩ (.int .i64 s.2)).heap[D']? = some (.deferred (some [])) := fun D' h => by
      obtain rfl := List.mem_singleton.1 h
      rw [heap_setCell_other _ _ _ _ (by simp; omega), heap_setCell_other _ _ _ _ (by simp; omega)]
      exact HM.out
    refine leaves_marks [M] _ (by simp) hm2 (fun W' hW => ?_)
    have e0 := hW.cell hm2 hset.1
    have e1 := hW.cell hm2 hset.2
    refine ⟨V2 s.1 s.2, by simp [results, Try.results74, go_sem, e0, e1], by rw [HF.out], hW.ext (((HST.out.but.below HX0.out (by simp <;> omega)).setCell (by simp) _).setCell (by simp) _) (by simp; omega)⟩
  case stop =>
    intro M W hM hf hb hx hmark
    have HF := Lib.hid (show farL xs ys = (0, 1) by rw [farL, HK.out, hf]; rfl)
    obtain ⟨r0, _⟩ := hx (w.heap.size + 1, 0, .int .i64 0) (by simp [pairC])
    obtain ⟨r1, _⟩ := hx (w.heap.size + 1, 1, .int .i64 1) (by simp [pairC])
    refine leaves_marks [M] _ (by simp) (mark_one hmark) (fun W' hW => ?_)
    have e0 := hW.cell (mark_one hmark) r0
    have e1 := hW.cell (mark_one hmark) r1
    refine ⟨V2 0 1, by simp [results, Try.results74, go_sem, e0, e1], by rw [HF.out], hW.ext (hb.below HX0.out (by simp <;> omega)) (by simp; omega)⟩
  case Ax => exact fun x a' W => ∃ b1 b2, w.heap.size + 5 ≤ b1 ∧ w.heap.size + 5 ≤ b2 ∧ b1 ≠ b2 ∧
    a' = { tmps := #[.slice (some ⟨b, o, none⟩) k c, .slice (some ⟨b', o', none⟩) k' c', undef, .pointer (some ⟨w.heap.size, 0, none⟩), .pointer (some ⟨w.heap.size + 1, 0, none⟩), .pointer (some ⟨w.heap.size + 1 + 1, 0, none⟩), .pointer (some ⟨w.heap.size + 1 + 1 + 1, 0, none⟩),
      .pointer (some ⟨b1, 0, none⟩), .pointer (some ⟨b2, 0, none⟩), undef, undef, undef, undef, .agg #[.int .i64 1, .int .i64 0], .slice (some ⟨b, o, none⟩) k c, .func (.func 108) #[] #[.pointer (some ⟨w.heap.size + 1 + 1 + 1 + 1, 0, none⟩)],
      .agg #[.int .i64 (sgA xs x.val).1, .int .i64 (sgA xs x.val).2], .agg #[.int .i64 (sgB xs x.val).1, .int .i64 (sgB xs x.val).2]] ++ (List.replicate 49 undef).toArray, defers := [] } ∧ (CellsAt (pairC b1 (sgA xs x.val) ++ pairC b2 (sgB xs x.val)) W)
  case hAx =>
    rintro x a' _ A B row ⟨b1, b2, h1, h2, h3, h4, h5⟩ hg hr
    exact ⟨b1, b2, h1, h2, h3, h4, h5.grown hg (fun r e => (hr r e).2)⟩
  case assign =>
    intro l x W K hW hK
    simp only [segEnc]
    gi_wp2
    refine hK _ _ (by (repeat' (first | with_reducible exact Ext.refl _ | with_reducible apply Ext.alloc | with_reducible apply Ext.drew | with_reducible apply Ext.drewN | with_reducible refine Ext.setCell ?_ ?_ _ | with_reducible apply Ext.step | with_reducible assumption | with_reducible exact Nat.le_refl _ | (simp; done) | (simp; omega)))) ⟨W.heap.size, W.heap.size + 1, by omega, by omega, by omega, by simp [List.replicate], ?_⟩
    intro t ht
    simp only [pairC, List.mem_append, List.mem_cons, List.not_mem_nil, or_false] at ht
    rcases ht with (rfl | rfl) | (rfl | rfl) <;> exact ⟨by go_cell, by go_simp⟩
  case body =>
    intro l s x a' W hl hf hlr hst hax
    obtain ⟨b1, b2, h1, h2, h3, rfl, hab⟩ := hax
    have hsk := farOuts_kept HCX.out HCY.out (.inl rfl) hf
    obtain ⟨r₀, hr₀⟩ := hlr
    have hWs := hst.but.size
    have kq := hst.but.cell cq (by simp <;> omega)
    have HST := Lib.hid hst
    have HAB := Lib.hid hab
    have HSK := Lib.hid hsk
    have HR := Lib.hid hr₀
    clear hf hst hab hsk hr₀
    gi_wp2
    refine (CallsIn.inRound l (segments_in Fence.wide 3 trivial rfl _ _ _ _)).mono ?_
    rintro e _ ⟨rfl, rfl⟩
    gi_wp2
    refine lay_in (fun W1 => Ext W W1 ∧ W1.heap.size = W.heap.size + 1 ∧ W1.cell? ⟨W.heap.size, 0, none⟩ = some (.slice (some ⟨b', o', none⟩) k' c')) ⟨by (repeat' (first | with_reducible exact Ext.refl _ | with_reducible apply Ext.alloc | with_reducible apply Ext.drew | with_reducible apply Ext.drewN | with_reducible refine Ext.setCell ?_ ?_ _ | with_reducible apply Ext.step | with_reducible assumption | with_reducible exact Nat.le_refl _ | (simp; done) | (simp; omega))), by simp, by go_cell⟩ ?_
    rintro W1 ⟨x1, hs1, cp1⟩
    have HST1 := Lib.hid (HST.out.ext x1)
    have HAB1 := Lib.hid (HAB.out.ext x1)
    have HR1 := Lib.hid ((x1.bel.block l (Array.getElem?_eq_some_iff.1 HR.out).1).trans HR.out)
    have HX1 := Lib.hid x1
    clear x1
    have HP1 := Lib.hid (show PathAt W1 [w.heap.size + 1, w.heap.size + 1 + 1] W.heap.size b' o' k' c' ys from ⟨cp1, HK'.out, hk1', hkc', hcm', hk2', fun i h => ⟨HST1.out.but.cell (HX0.out.cell_some (HY.out i h).1) (by simp <;> omega), HST1.out.but.cell (HX0.out.cell_some (HY.out i h).2) (by simp <;> omega)⟩, by simp <;> omega, by simp; omega⟩)
    refine wpIn_range_inn (N := segN k') (fun s => pairC (w.heap.size + 1 + 1) s ++ pairC (w.heap.size + 1) (0, 0)) (farIn (sgA xs x.val) (sgB xs x.val) ys) s (fun W => CellsAt (pairC (w.heap.size + 1) (0, 1)) W) [w.heap.size + 1, w.heap.size + 1 + 1] rfl HR1.out (by decide) (gf := 108) (lb := #[.pointer (some ⟨W.heap.size, 0, none⟩)]) rfl trivial (enters_of Try.func108 (by kernel_rfl) rfl)
      (segs_seq 3 (by decide) _ _ b' o' k' c' ys W1 HP1.out) (fun _ => rfl) (fun d hd => by simp at hd; omega) HST1.out.cells (fun _ _ _ _ hs hg hr => hs.grown hg (fun r e => (hr r e).2)) ?Ax2 ?hAx2 ?assign2 ?body2 ?done2 ?stop2
    case Ax2 => exact fun y a' W' => ∃ b3 b4, W1.heap.size ≤ b3 ∧ W1.heap.size ≤ b4 ∧ b3 ≠ b4 ∧
      a' = { tmps := #[.slice (some ⟨b, o, none⟩) k c, .slice (some ⟨b', o', none⟩) k' c', undef, .pointer (some ⟨w.heap.size, 0, none⟩), .pointer (some ⟨w.heap.size + 1, 0, none⟩), .pointer (some ⟨w.heap.size + 1 + 1, 0, none⟩), .pointer (some ⟨w.heap.size + 1 + 1 + 1, 0, none⟩),
        .pointer (some ⟨b1, 0, none⟩), .pointer (some ⟨b2, 0, none⟩), .pointer (some ⟨b3, 0, none⟩), .pointer (some ⟨b4, 0, none⟩), undef, undef, .agg #[.int .i64 1, .int .i64 0], .slice (some ⟨b, o, none⟩) k c, .func (.func 108) #[] #[.pointer (some ⟨w.heap.size + 1 + 1 + 1 + 1, 0, none⟩)],
        .agg #[.int .i64 (sgA xs x.val).1, .int .i64 (sgA xs x.val).2], .agg #[.int .i64 (sgB xs x.val).1, .int .i64 (sgB xs x.val).2], .slice (some ⟨b', o', none⟩) k' c', .func (.func 108) #[] #[.pointer (some ⟨W.heap.size, 0, none⟩)],
        .agg #[.int .i64 (sgA ys y.val).1, .int .i64 (sgA ys y.val).2], .agg #[.int .i64 (sgB ys y.val).1, .int .i64 (sgB ys y.val).2]] ++ (List.replicate 45 undef).toArray, defers := [] } ∧ (CellsAt (pairC b3 (sgA ys y.val) ++ pairC b4 (sgB ys y.val)) W')
    case hAx2 =>
      rintro y a' _ A B row ⟨b3, b4, g1, g2, g3, g4, g5⟩ hg hr
      exact ⟨b3, b4, g1, g2, g3, g4, g5.grown hg (fun r e => (hr r e).2)⟩
    case assign2 =>
      intro l2 y W' K hW hK
      simp only [segEnc]
      gi_wp2
      refine hK _ _ (by (repeat' (first | with_reducible exact Ext.refl _ | with_reducible apply Ext.alloc | with_reducible apply Ext.drew | with_reducible apply Ext.drewN | with_reducible refine Ext.setCell ?_ ?_ _ | with_reducible apply Ext.step | with_reducible assumption | with_reducible exact Nat.le_refl _ | (simp; done) | (simp; omega)))) ⟨W'.heap.size, W'.heap.size + 1, by omega, by omega, by omega, by simp [List.replicate], ?_⟩
      intro t ht
      simp only [pairC, List.mem_append, List.mem_cons, List.not_mem_nil, or_false] at ht
      rcases ht with (rfl | rfl) | (rfl | rfl) <;> exact ⟨by go_cell, by go_simp⟩
    case done2 =>
      intro s' W' hf' hst'
      exact ⟨s', by rw [farOut, HK'.out]; exact hf', (HX1.out.but).trans hst'.but, hst'.cells⟩
    case stop2 =>
      intro W' hf' hb' hx'
      exact ⟨by rw [farOut, HK'.out]; exact hf', (HX1.out.but).trans hb', hx'⟩
    case body2 =>
      intro l2 s2 y a' W2 hl2 hf2 hlr2 hst2 hax2
      obtain ⟨b3, b4, g1, g2, g3, rfl, hab2⟩ := hax2
      have hsk2 := farIns_kept (sgA_co HCX.out x.val) (sgB_co HCX.out x.val) HCY.out HSK.out hf2
      clear hf2 hlr2
      have cA := sgA_co HCX.out x.val
      have cB := sgB_co HCX.out x.val
      have cC := sgA_co HCY.out y.val
      have cD := sgB_co HCY.out y.val
      have hbt := HST1.out.but.trans hst2.but
      obtain ⟨p0, q0⟩ := (HAB1.out (b1, 0, .int .i64 (sgA xs x.val).1) (by simp [pairC]))
      obtain ⟨p1, q1⟩ := (HAB1.out (b1, 1, .int .i64 (sgA xs x.val).2) (by simp [pairC]))
      obtain ⟨p2, q2⟩ := (HAB1.out (b2, 0, .int .i64 (sgB xs x.val).1) (by simp [pairC]))
      obtain ⟨p3, q3⟩ := (HAB1.out (b2, 1, .int .i64 (sgB xs x.val).2) (by simp [pairC]))
      have lb1 := cell_lt p0
      have lb2 := cell_lt p2
      replace p0 := hst2.but.cell p0 (by simp <;> omega)
      replace p1 := hst2.but.cell p1 (by simp <;> omega)
      replace p2 := hst2.but.cell p2 (by simp <;> omega)
      replace p3 := hst2.but.cell p3 (by simp <;> omega)
      obtain ⟨p4, q4⟩ := (hab2 (b3, 0, .int .i64 (sgA ys y.val).1) (by simp [pairC]))
      obtain ⟨p5, q5⟩ := (hab2 (b3, 1, .int .i64 (sgA ys y.val).2) (by simp [pairC]))
      obtain ⟨p6, q6⟩ := (hab2 (b4, 0, .int .i64 (sgB ys y.val).1) (by simp [pairC]))
      obtain ⟨p7, q7⟩ := (hab2 (b4, 1, .int .i64 (sgB ys y.val).2) (by simp [pairC]))
      have kf := hbt.cell cf (by simp <;> omega)
      have HST2 := Lib.hid hst2
      have HSK2 := Lib.hid hsk2
      have HBT := Lib.hid hbt
      obtain ⟨fo, hfo⟩ : ∃ z, z = farIn (sgA xs x.val) (sgB xs x.val) ys s2 y.val := ⟨_, rfl⟩
      rw [← hfo]
      rw [farIn] at hfo
      have HFO := Lib.hid hfo
      clear hfo q0 q1 q2 q3 q4 q5 q6 q7 hab2 hst2 hsk2 hbt
      generalize sgA xs x.val = pa at *
      generalize sgB xs x.val = pb at *
      generalize sgA ys y.val = pc at *
      generalize sgB ys y.val = pd at *
      obtain ⟨ax, ay⟩ := pa
      obtain ⟨bx, by'⟩ := pb
      obtain ⟨cx, cy⟩ := pc
      obtain ⟨dx, dy⟩ := pd
      simp only at p0 p1 p2 p3 p4 p5 p6 p7
      have HC1 := Lib.hid fun W : World => apart_any ax ay bx by' cx cy dx dy W cA.x cA.y cB.x cB.y cC.x cC.y cD.x cD.y
      have HC2 := Lib.hid fun W : World => apart_any cx cy dx dy ax ay bx by' W cC.x cC.y cD.x cD.y cA.x cA.y cB.x cB.y
      cases hv : (apartB ax ay bx by' cx cy dx dy && apartB cx cy dx dy ax ay bx by')
      · have HF2 := Lib.hid (show fo = some (four s2 (ax, ay) (bx, by') (cx, cy) (dx, dy)) by rw [HFO.out]; exact if_neg (by simp [apartP, hv]))
        obtain ⟨u, hu⟩ : ∃ u, u = quad (spotP (ax, ay) (cx, cy) (dx, dy)) (spotP (bx, by') (cx, cy) (dx, dy)) (spotP (cx, cy) (ax, ay) (bx, by')) (spotP (dx, dy) (ax, ay) (bx, by')) := ⟨_, rfl⟩
        have HUB := Lib.hid (show ∀ i, SqB (u i) by rw [hu]; exact quad_found (spotP_bd cA cC cD) (spotP_bd cB cC cD) (spotP_bd cC cA cB) (spotP_bd cD cA cB))
        have HF3 := Lib.hid (show fo = some (takes s2 u 4) by rw [HF2.out, hu]; rfl)
        have HIX := Lib.hid (show ∀ i, i < 4 → ∀ w, (Instr.index 159 (.agg #[.int .i64 (spotN ax ay cx cy dx dy), .int .i64 (spotD ax ay cx cy dx dy), .int .i64 (spotN bx by' cx cy dx dy), .int .i64 (spotD bx by' cx cy dx dy), .int .i64 (spotN cx cy ax ay bx by'), .int .i64 (spotD cx cy ax ay bx by'), .int .i64 (spotN dx dy ax ay bx by'), .int .i64 (spotD dx dy ax ay bx by')]) (.int .i64 ((i : Nat) : Int))).run Try.prog w = .ok (V2 (u i).1 (u i).2) w by
          intro i hi w
          rw [hu]
          rcases (by omega : i = 0 ∨ i = 1 ∨ i = 2 ∨ i = 3) with rfl | rfl | rfl | rfl <;> kernel_rfl)
        clear hu HF2
        have HS1 := Lib.hid fun W : World => spot_any ax ay cx cy dx dy W cA.x cA.y cC.x cC.y cD.x cD.y
        have HS2 := Lib.hid fun W : World => spot_any bx by' cx cy dx dy W cB.x cB.y cC.x cC.y cD.x cD.y
        have HS3 := Lib.hid fun W : World => spot_any cx cy ax ay bx by' W cC.x cC.y cA.x cA.y cB.x cB.y
        have HS4 := Lib.hid fun W : World => spot_any dx dy ax ay bx by' W cD.x cD.y cA.x cA.y cB.x cB.y
        cases hv1 : apartB ax ay bx by' cx cy dx dy
        case' false =>
          rw [hv1] at HC1
          clear hv hv1 HFO HC2
          gi_wp2
          refine (CallsIn.inRound l2 (CallsIn.inRound l (callsIn_wide.2 (HC1.out _)))).mono ?_
          rintro e W4 ⟨rfl, x4⟩
        case' true =>
          rw [hv1, Bool.true_and] at hv
          rw [hv1] at HC1
          rw [hv] at HC2
          clear hv hv1 HFO
          gi_wp2
          refine (CallsIn.inRound l2 (CallsIn.inRound l (callsIn_wide.2 (HC1.out _)))).mono ?_
          rintro e W3 ⟨rfl, x3⟩
          replace p0 := x3.cell_some p0
          replace p1 := x3.cell_some p1
          replace p2 := x3.cell_some p2
          replace p3 := x3.cell_some p3
          replace p4 := x3.cell_some p4
          replace p5 := x3.cell_some p5
          replace p6 := x3.cell_some p6
          replace p7 := x3.cell_some p7
          have HX3 := Lib.hid x3
          clear x3
          gi_wp2
          refine (CallsIn.inRound l2 (CallsIn.inRound l (callsIn_wide.2 (HC2.out _)))).mono ?_
          rintro e W4 ⟨rfl, y4⟩
          have x4 := HX3.out.trans y4
          replace p0 := y4.cell_some p0
          replace p1 := y4.cell_some p1
          replace p2 := y4.cell_some p2
          replace p3 := y4.cell_some p3
          replace p4 := y4.cell_some p4
          replace p5 := y4.cell_some p5
          replace p6 := y4.cell_some p6
          replace p7 := y4.cell_some p7
          clear y4 HX3
        case' false =>
          replace p0 := x4.cell_some p0
          replace p1 := x4.cell_some p1
          replace p2 := x4.cell_some p2
          replace p3 := x4.cell_some p3
          replace p4 := x4.cell_some p4
          replace p5 := x4.cell_some p5
          replace p6 := x4.cell_some p6
          replace p7 := x4.cell_some p7
        all_goals
          have HX4 := Lib.hid x4
          have kf4 := x4.cell_some kf
          have m1 := cell_lt p0
          have m2 := cell_lt p2
          have m3 := cell_lt p4
          have m4 := cell_lt p6
          clear x4
          gi_wp2
          refine wpIn_region_bextR (by kernel_rfl) (by kernel_rfl) (by kernel_rfl) ?_
          repeat (gi_big_quiet_step (first | (gi_at_call 99; with_reducible exact bextR_call (CallsIn.inRound l2 (CallsIn.inRound l (callsIn_wide.2 (HS1.out _))))) | (gi_at_call 99; with_reducible exact bextR_call (CallsIn.inRound l2 (CallsIn.inRound l (callsIn_wide.2 (HS2.out _))))) | (gi_at_call 99; with_reducible exact bextR_call (CallsIn.inRound l2 (CallsIn.inRound l (callsIn_wide.2 (HS3.out _))))) | (gi_at_call 99; with_reducible exact bextR_call (CallsIn.inRound l2 (CallsIn.inRound l (callsIn_wide.2 (HS4.out _)))))))
          refine wpQuietIn_nil ?_
          intro W5 x5
          have HST5 := Lib.hid (show StAt [w.heap.size + 1, w.heap.size + 1 + 1] W2 (pairC (w.heap.size + 1 + 1) (takes s2 u 0) ++ pairC (w.heap.size + 1) (0, 0)) W5 from ⟨(HX4.out.trans x5).but, HST2.out.cells.ext (HX4.out.trans x5)⟩)
          clear x5 p0 p1 p2 p3 p4 p5 p6 p7 kf4 m1 m2 m3 m4
          generalize spotN ax ay cx cy dx dy = n0 at *
          generalize spotD ax ay cx cy dx dy = d0 at *
          generalize spotN bx by' cx cy dx dy = n1 at *
          generalize spotD bx by' cx cy dx dy = d1 at *
          generalize spotN cx cy ax ay bx by' = n2 at *
          generalize spotD cx cy ax ay bx by' = d2 at *
          generalize spotN dx dy ax ay bx by' = n3 at *
          generalize spotD dx dy ax ay bx by' = d3 at *
          clear HC1 HS1 HS2 HS3 HS4
          gi_wp2
          gi_loopw [52, 12] (fun iv _ wr => ∃ i : Nat, i ≤ 4 ∧ iv = .int .i64 i ∧ StAt [w.heap.size + 1, w.heap.size + 1 + 1] W2 (pairC (w.heap.size + 1 + 1) (takes s2 u i) ++ pairC (w.heap.size + 1) (0, 0)) wr) (fun iv _ _ => 4 - (intOf iv).toNat)
          case atStart => exact ⟨0, by omega, rfl, HST5.out⟩
          case round =>
            obtain ⟨i, hi, rfl, hst⟩ := hrel
            have HSR := Lib.hid hst
            by_cases hlt : i < 4
            · obtain ⟨c0, f0⟩ := hst.cells (w.heap.size + 1 + 1, 0, .int .i64 (takes s2 u i).1) (by simp [pairC])
              obtain ⟨c1, f1⟩ := hst.cells (w.heap.size + 1 + 1, 1, .int .i64 (takes s2 u i).2) (by simp [pairC])
              have kfr := hst.but.cell kf (by simp <;> omega)
              have lw := cell_lt c0
              have lf := cell_lt kfr
              have hix := HIX.out i hlt
              have HTK := Lib.hid (show takes s2 u (i + 1) = takeP (takes s2 u i) (u i) from rfl)
              have hup := takes_kept HSK2.out HUB.out i
              have huu := HUB.out i
              have HLS := Lib.hid fun W : World => less_any (u i).1 (u i).2 (takes s2 u i).1 (takes s2 u i).2 W huu.up.1 huu.up.2 hup.up.1 hup.up.2
              obtain ⟨tn, htn⟩ : ∃ z, z = takes s2 u (i + 1) := ⟨_, rfl⟩
              rw [← htn] at HTK
              generalize takes s2 u i = si at *
              generalize u i = ui at *
              clear hst HIX hup huu
              obtain ⟨sn, sd⟩ := si
              obtain ⟨un, ud⟩ := ui
              have HNN := Lib.hid htn
              clear htn
              simp only at c0 c1 f0 f1 hix
              by_cases hz : sd = 0
              · subst hz
                have HTN := Lib.hid (show tn = (un, ud) by rw [HTK.out]; simp [takeP, take1])
                gi_wp2
                refine ⟨fun f h => (by cases h), ?_⟩
                gi_wp2
                go_roundw
                case rel =>
                  refine ⟨i + 1, by omega, by go_num, ?_⟩
                  rw [← HNN.out, HTN.out]
                  exact (st_put (un, ud) HSR.out (by simp) (by omega) (Ext.refl _)).ext (by (repeat' (first | with_reducible exact Ext.refl _ | with_reducible apply Ext.alloc | with_reducible apply Ext.drew | with_reducible apply Ext.drewN | with_reducible refine Ext.setCell ?_ ?_ _ | with_reducible apply Ext.step | with_reducible assumption | with_reducible exact Nat.le_refl _ | (simp; done) | (simp; omega))))
                case measure => simp [intOf]; omega
              · have hzb : (sd == 0) = false := by simpa using hz
                cases hl : decide (un * sd < sn * ud)
                · have HTN := Lib.hid (show tn = (sn, sd) by rw [HTK.out]; simp only [takeP, take1]; exact if_neg (by simpa [hz] using hl))
                  simp only [hl] at HLS
                  clear hz hl
                  gi_wp2
                  refine (CallsIn.inRound l2 (CallsIn.inRound l (callsIn_wide.2 (HLS.out _)))).mono ?_
                  rintro e W6 ⟨rfl, x6⟩
                  have HX6 := Lib.hid (show Ext wr W6 from Ext.trans (by (repeat' (first | with_reducible exact Ext.refl _ | with_reducible apply Ext.alloc | with_reducible apply Ext.drew | with_reducible apply Ext.drewN | with_reducible refine Ext.setCell ?_ ?_ _ | with_reducible apply Ext.step | with_reducible assumption | with_reducible exact Nat.le_refl _ | (simp; done) | (simp; omega)))) x6)
                  clear x6
                  gi_wp2
                  go_roundw
                  case rel =>
                    refine ⟨i + 1, by omega, by go_num, ?_⟩
                    rw [← HNN.out, HTN.out]
                    exact HSR.out.ext HX6.out
                  case measure => simp [intOf]; omega
                · have HTN := Lib.hid (show tn = (un, ud) by rw [HTK.out]; simp only [takeP, take1]; exact if_pos (.inr (by simpa using hl)))
                  simp only [hl] at HLS
                  clear hz hl
                  gi_wp2
                  refine (CallsIn.inRound l2 (CallsIn.inRound l (callsIn_wide.2 (HLS.out _)))).mono ?_
                  rintro e W6 ⟨rfl, x6⟩
                  have HX6 := Lib.hid (show Ext wr W6 from Ext.trans (by (repeat' (first | with_reducible exact Ext.refl _ | with_reducible apply Ext.alloc | with_reducible apply Ext.drew | with_reducible apply Ext.drewN | with_reducible refine Ext.setCell ?_ ?_ _ | with_reducible apply Ext.step | with_reducible assumption | with_reducible exact Nat.le_refl _ | (simp; done) | (simp; omega)))) x6)
                  have b0 := x6.cell_some (show (wr.alloc (.cells #[.int .i64 un, .int .i64 ud] 122)).cell? ⟨wr.heap.size, 0, none⟩ = some (.int .i64 un) by go_cell)
                  have b1 := x6.cell_some (show (wr.alloc (.cells #[.int .i64 un, .int .i64 ud] 122)).cell? ⟨wr.heap.size, 1, none⟩ = some (.int .i64 ud) by go_cell)
                  replace f0 := HX6.out.frozen c0 f0
                  replace f1 := HX6.out.frozen c1 f1
                  replace c0 := HX6.out.cell_some c0
                  replace c1 := HX6.out.cell_some c1
                  have lb := cell_lt b0
                  have lc := cell_lt c0
                  clear x6
                  gi_wp2
                  go_roundw
                  case rel =>
                    refine ⟨i + 1, by omega, by go_num, ?_⟩
                    rw [← HNN.out, HTN.out]
                    exact st_put (un, ud) HSR.out (by simp) (by omega) HX6.out
                  case measure => simp [intOf]; omega
            · obtain rfl : i = 4 := by omega
              clear hst
              gi_wp2
              exact ⟨_, HF3.out, HSR.out.but, HSR.out.cells⟩
      · have HF2 := Lib.hid (show fo = none by rw [HFO.out]; exact if_pos (by simp [apartP, hv]))
        obtain ⟨hv1, hv2⟩ : apartB ax ay bx by' cx cy dx dy = true ∧ apartB cx cy dx dy ax ay bx by' = true := by simpa using hv
        rw [hv1] at HC1
        rw [hv2] at HC2
        clear hv hv1 hv2 HFO
        gi_wp2
        refine (CallsIn.inRound l2 (CallsIn.inRound l (callsIn_wide.2 (HC1.out _)))).mono ?_
        rintro e W3 ⟨rfl, x3⟩
        have HX3 := Lib.hid x3
        replace p0 := x3.cell_some p0
        replace p1 := x3.cell_some p1
        replace p2 := x3.cell_some p2
        replace p3 := x3.cell_some p3
        replace p4 := x3.cell_some p4
        replace p5 := x3.cell_some p5
        replace p6 := x3.cell_some p6
        replace p7 := x3.cell_some p7
        clear x3
        gi_wp2
        refine (CallsIn.inRound l2 (CallsIn.inRound l (callsIn_wide.2 (HC2.out _)))).mono ?_
        rintro e W4 ⟨rfl, x4⟩
        have hst4 := HST2.out.ext (HX3.out.trans x4)
        obtain ⟨r0, f0⟩ := hst4.cells (w.heap.size + 1, 0, .int .i64 0) (by simp [pairC])
        obtain ⟨r1, f1⟩ := hst4.cells (w.heap.size + 1, 1, .int .i64 0) (by simp [pairC])
        have HX4 := Lib.hid (HX3.out.trans x4)
        have lr := cell_lt r0
        simp only at r0 r1 f0 f1
        clear x4 hst4 p0 p1 p2 p3 p4 p5 p6 p7
        gi_wp2
        obtain ⟨e0, e1⟩ := set2 r0 r1 (.int .i64 0) (.int .i64 1)
        refine ⟨HF2.out, (HX4.out.but.setCell (by simp) _).setCell (by simp) _, ?_⟩
        intro t ht
        simp only [pairC, List.mem_cons, List.not_mem_nil, or_false] at ht
        rcases ht with rfl | rfl <;> refine ⟨by assumption, by simp [f0, f1]⟩
end
open Go.RowKit

theorem spotK_cells {w : World} {v : Value} {xs : List (Int × Int)} (h : spotK.Is w v xs) (h1 : 1 ≤ xs.length) :
    ∃ b o c, v = .slice (some ⟨b, o, none⟩) xs.length c ∧ xs.length ≤ c ∧ c ≤ maxLen ∧ ∀ i (h : i < xs.length), w.cell? ⟨b, o + i * 2, none⟩ = some (.int .i64 xs[i].1) ∧ w.cell? ⟨b, o + i * 2 + 1, none⟩ = some (.int .i64 xs[i].2) := by
  obtain ⟨A, c, rfl, _, hc, hr⟩ := h
  obtain ⟨b, o, rfl, _⟩ := hr 0 (by omega)
  refine ⟨b, o, c, rfl, hc.1, hc.2, fun i hi => ?_⟩
  obtain ⟨b', o', he, _, h2, h3⟩ := spotK_at hr hi
  simp only [Option.some.injEq, Addr.mk.injEq, and_true] at he
  obtain ⟨rfl, rfl⟩ := he
  exact ⟨h2, h3⟩

theorem lineB_iff {xs : List (Int × Int)} : lineB xs = true ↔ (∀ s ∈ xs, (-10000 ≤ s.1 ∧ s.1 ≤ 10000) ∧ -10000 ≤ s.2 ∧ s.2 ≤ 10000) ∧ 1 ≤ xs.length ∧ xs.length ≤ 12 := by
  simp only [lineB, Bool.and_eq_true, List.all_eq_true, spotOk, inB_iff]
  exact ⟨fun ⟨h, a, b⟩ => ⟨h, by omega, by omega⟩, fun ⟨h, a, b⟩ => ⟨h, by omega, by omega⟩⟩
theorem lineB_co {xs : List (Int × Int)} (h : lineB xs = true) : ∀ s ∈ xs, CoP s := fun s hs => by
  obtain ⟨⟨h1, h2⟩, h3, h4⟩ := (lineB_iff.1 h).1 s hs
  exact ⟨⟨by omega, by omega⟩, by omega, by omega⟩
theorem lineB_len {xs : List (Int × Int)} (h : lineB xs = true) : 1 ≤ xs.length ∧ xs.length ≤ 1000 := by
  have := (lineB_iff.1 h).2
  omega

theorem farK_any (v u : Value) (xs ys : List (Int × Int)) (w : World) (hx : spotK.Is w v xs) (hy : spotK.Is w u ys) (hl : 1 ≤ xs.length ∧ xs.length ≤ 1000) (hl' : 1 ≤ ys.length ∧ ys.length ≤ 1000) (hcx : ∀ s ∈ xs, CoP s) (hcy : ∀ s ∈ ys, CoP s) :
    Calls Try.prog 74 #[v, u] w fun e w' => e = .returned (V2 (farL xs ys).1 (farL xs ys).2) ∧ Ext w w' := by
  obtain ⟨b, o, c, rfl, h1, h2, h3⟩ := spotK_cells hx hl.1
  obtain ⟨b', o', c', rfl, h1', h2', h3'⟩ := spotK_cells hy hl'.1
  exact far_any b o _ c b' o' _ c' xs ys w rfl hl.1 hl.2 h1 h2 rfl hl'.1 hl'.2 h1' h2' h3 h3' hcx hcy

/-- The lines come nearer than n. -/
def nearB (xs ys : List (Int × Int)) (n : Int) : Bool := decide ((farL xs ys).1 < n * n * (farL xs ys).2)

set_option maxHeartbeats 1000000 in
theorem near_any (v u : Value) (xs ys : List (Int × Int)) (n : Int) (w : World) (hx : spotK.Is w v xs) (hy : spotK.Is w u ys) (hl : 1 ≤ xs.length ∧ xs.length ≤ 1000) (hl' : 1 ≤ ys.length ∧ ys.length ≤ 1000) (hcx : ∀ s ∈ xs, CoP s) (hcy : ∀ s ∈ ys, CoP s)
    (hn : 0 ≤ n) (hn2 : n ≤ 1000000000) : Calls Try.prog 77 #[v, u, .int .i64 n] w fun e w' => e = .returned (.bool (nearB xs ys n)) ∧ Ext w w' := by
  have hf := (far_eq hcx hcy).1
  have HF := Lib.hid (farK_any v u xs ys w hx hy hl hl' hcx hcy)
  obtain ⟨n1, n2⟩ : 0 ≤ n * n ∧ n * n ≤ 1000000000000000000 := by
    have := Int.mul_le_mul hn2 hn2 hn (by omega)
    exact ⟨sq_nn n, by omega⟩
  have HL := Lib.hid fun W : World => less_any (farL xs ys).1 (farL xs ys).2 (n * n) 1 W hf.up.1 hf.up.2 ⟨n1, by omega⟩ ⟨by decide, by decide⟩
  clear hf hx hy hl hl' hcx hcy
  go_enter Try.func77, Try.ntmps77
  go_wp2_with fail
  refine HF.out.mono ?_
  rintro e W1 ⟨rfl, x1⟩
  go_wp2_with fail
  refine (HL.out _).mono ?_
  rintro e W2 ⟨rfl, x2⟩
  have HX := Lib.hid (x1.trans x2)
  clear x1 x2
  go_wp2_with fail
  go_ret
  exact ⟨rfl, HX.out⟩

def distE (xs ys : List (Int × Int)) : Int := if lineB xs && lineB ys then 0 else 2
def distP (xs ys : List (Int × Int)) : Int × Int := if lineB xs && lineB ys then lowF (farL xs ys).1 (farL xs ys).2 else (0, 0)
def apE (xs ys : List (Int × Int)) (n : Int) : Int := if (lineB xs && lineB ys) && inB 0 30000 n then 0 else 2
def apB (xs ys : List (Int × Int)) (n : Int) : Bool := if (lineB xs && lineB ys) && inB 0 30000 n then !nearB xs ys n else false

theorem gcdG_step (x y : Int) : Int.gcd y (x.tmod y) = Int.gcd x y := by
  simp [Int.gcd, Int.natAbs_tmod]
  rw [Nat.gcd_comm, ← Nat.gcd_rec]
  exact Nat.gcd_comm _ _
def GcdG (a b x y : Int) : Prop := Int.gcd x y = Int.gcd a b

set_option maxRecDepth 100000 in
set_option maxHeartbeats 4000000 in
theorem distance_any (v u : Value) (xs ys : List (Int × Int)) (w : World) (hx : spotK.Is w v xs) (hy : spotK.Is w u ys) :
    Calls Try.prog 29 #[v, u] w fun e w' => e = .returned (.tuple #[V2 (distP xs ys).1 (distP xs ys).2, .int .i64 (distE xs ys)]) ∧ Ext w w' := by
  have HX := Lib.hid hx
  have HY := Lib.hid hy
  obtain ⟨A, k, c, rfl, _⟩ := hx.open_
  obtain ⟨A', k', c', rfl, _⟩ := hy.open_
  clear hx hy
  cases h1 : lineB xs
  · have HE := Lib.hid (show distE xs ys = 2 by simp [distE, h1])
    have HP := Lib.hid (show distP xs ys = (0, 0) by simp [distP, h1])
    have HL := Lib.hid fun (W : World) (x : Ext w W) => isLine_any _ xs W (HX.out.ext x)
    rw [h1] at HL
    go_enter Try.func29, Try.ntmps29
    go_wp2_with fail
    refine (HL.out _ (by (repeat' (first | with_reducible exact Ext.refl _ | with_reducible apply Ext.alloc | with_reducible apply Ext.drew | with_reducible apply Ext.drewN | with_reducible refine Ext.setCell ?_ ?_ _ | with_reducible apply Ext.step | with_reducible assumption | with_reducible exact Nat.le_refl _ | (simp; done) | (simp; omega))))).mono ?_
    rintro e _ ⟨rfl, hx⟩
    obtain ⟨δ, rfl⟩ : Ext (w.alloc (.cells #[.int .i64 0, .int .i64 0] 45)) _ := Ext.trans (by (repeat' (first | with_reducible exact Ext.refl _ | with_reducible apply Ext.alloc | with_reducible apply Ext.drew | with_reducible apply Ext.drewN | with_reducible refine Ext.setCell ?_ ?_ _ | with_reducible apply Ext.step | with_reducible assumption | with_reducible exact Nat.le_refl _ | (simp; done) | (simp; omega)))) hx
    clear hx
    try (have hs0 := δ.lt (w.heap.size) (by first | (simp; done) | (simp; omega)))
    go_wp2_with fail
    go_returns
    exact ⟨by rw [HE.out, HP.out], by (repeat' (first | with_reducible exact Ext.refl _ | with_reducible apply Ext.alloc | with_reducible apply Ext.drew | with_reducible apply Ext.drewN | with_reducible refine Ext.setCell ?_ ?_ _ | with_reducible apply Ext.step | with_reducible assumption | with_reducible exact Nat.le_refl _ | (simp; done) | (simp; omega)))⟩
  have HL := Lib.hid fun (W : World) (x : Ext w W) => isLine_any _ xs W (HX.out.ext x)
  have HM := Lib.hid fun (W : World) (x : Ext w W) => isLine_any _ ys W (HY.out.ext x)
  rw [h1] at HL
  cases h2 : lineB ys
  · have HE := Lib.hid (show distE xs ys = 2 by simp [distE, h1, h2])
    have HP := Lib.hid (show distP xs ys = (0, 0) by simp [distP, h1, h2])
    rw [h2] at HM
    go_enter Try.func29, Try.ntmps29
    go_wp2_with fail
    refine (HL.out _ (by (repeat' (first | with_reducible exact Ext.refl _ | with_reducible apply Ext.alloc | with_reducible apply Ext.drew | with_reducible apply Ext.drewN | with_reducible refine Ext.setCell ?_ ?_ _ | with_reducible apply Ext.step | with_reducible assumption | with_reducible exact Nat.le_refl _ | (simp; done) | (simp; omega))))).mono ?_
    rintro e _ ⟨rfl, hx⟩
    obtain ⟨δ, rfl⟩ : Ext (w.alloc (.cells #[.int .i64 0, .int .i64 0] 45)) _ := Ext.trans (by (repeat' (first | with_reducible exact Ext.refl _ | with_reducible apply Ext.alloc | with_reducible apply Ext.drew | with_reducible apply Ext.drewN | with_reducible refine Ext.setCell ?_ ?_ _ | with_reducible apply Ext.step | with_reducible assumption | with_reducible exact Nat.le_refl _ | (simp; done) | (simp; omega)))) hx
    clear hx
    try (have hs0 := δ.lt (w.heap.size) (by first | (simp; done) | (simp; omega)))
    go_wp2_with fail
    refine (HM.out _ (by (repeat' (first | with_reducible exact Ext.refl _ | with_reducible apply Ext.alloc | with_reducible apply Ext.drew | with_reducible apply Ext.drewN | with_reducible refine Ext.setCell ?_ ?_ _ | with_reducible apply Ext.step | with_reducible assumption | with_reducible exact Nat.le_refl _ | (simp; done) | (simp; omega))))).mono ?_
    rintro e _ ⟨rfl, hx⟩
    obtain ⟨δ, rfl⟩ : Ext (w.alloc (.cells #[.int .i64 0, .int .i64 0] 45)) _ := Ext.trans (by (repeat' (first | with_reducible exact Ext.refl _ | with_reducible apply Ext.alloc | with_reducible apply Ext.drew | with_reducible apply Ext.drewN | with_reducible refine Ext.setCell ?_ ?_ _ | with_reducible apply Ext.step | with_reducible assumption | with_reducible exact Nat.le_refl _ | (simp; done) | (simp; omega)))) hx
    clear hx
    try (have hs0 := δ.lt (w.heap.size) (by first | (simp; done) | (simp; omega)))
    go_wp2_with fail
    go_returns
    exact ⟨by rw [HE.out, HP.out], by (repeat' (first | with_reducible exact Ext.refl _ | with_reducible apply Ext.alloc | with_reducible apply Ext.drew | with_reducible apply Ext.drewN | with_reducible refine Ext.setCell ?_ ?_ _ | with_reducible apply Ext.step | with_reducible assumption | with_reducible exact Nat.le_refl _ | (simp; done) | (simp; omega)))⟩
  rw [h2] at HM
  have HE := Lib.hid (show distE xs ys = 0 by simp [distE, h1, h2])
  have HP := Lib.hid (show distP xs ys = lowF (farL xs ys).1 (farL xs ys).2 by simp [distP, h1, h2])
  have HF := Lib.hid fun (W : World) (x : Ext w W) => farK_any _ _ xs ys W (HX.out.ext x) (HY.out.ext x) (lineB_len h1) (lineB_len h2) (lineB_co h1) (lineB_co h2)
  have hb := (far_eq (lineB_co h1) (lineB_co h2)).1
  generalize farL xs ys = fa at *
  obtain ⟨p, q⟩ := fa
  obtain ⟨hp0, hp1, hq0, hq1⟩ := hb
  simp only at hp0 hp1 hq0 hq1
  clear h1 h2
  go_enter Try.func29, Try.ntmps29
  go_wp2_with fail
  refine (HL.out _ (by (repeat' (first | with_reducible exact Ext.refl _ | with_reducible apply Ext.alloc | with_reducible apply Ext.drew | with_reducible apply Ext.drewN | with_reducible refine Ext.setCell ?_ ?_ _ | with_reducible apply Ext.step | with_reducible assumption | with_reducible exact Nat.le_refl _ | (simp; done) | (simp; omega))))).mono ?_
  rintro e _ ⟨rfl, hx⟩
  obtain ⟨δ, rfl⟩ : Ext (w.alloc (.cells #[.int .i64 0, .int .i64 0] 45)) _ := Ext.trans (by (repeat' (first | with_reducible exact Ext.refl _ | with_reducible apply Ext.alloc | with_reducible apply Ext.drew | with_reducible apply Ext.drewN | with_reducible refine Ext.setCell ?_ ?_ _ | with_reducible apply Ext.step | with_reducible assumption | with_reducible exact Nat.le_refl _ | (simp; done) | (simp; omega)))) hx
  clear hx
  try (have hs0 := δ.lt (w.heap.size) (by first | (simp; done) | (simp; omega)))
  go_wp2_with fail
  refine (HM.out _ (by (repeat' (first | with_reducible exact Ext.refl _ | with_reducible apply Ext.alloc | with_reducible apply Ext.drew | with_reducible apply Ext.drewN | with_reducible refine Ext.setCell ?_ ?_ _ | with_reducible apply Ext.step | with_reducible assumption | with_reducible exact Nat.le_refl _ | (simp; done) | (simp; omega))))).mono ?_
  rintro e _ ⟨rfl, hx⟩
  obtain ⟨δ, rfl⟩ : Ext (w.alloc (.cells #[.int .i64 0, .int .i64 0] 45)) _ := Ext.trans (by (repeat' (first | with_reducible exact Ext.refl _ | with_reducible apply Ext.alloc | with_reducible apply Ext.drew | with_reducible apply Ext.drewN | with_reducible refine Ext.setCell ?_ ?_ _ | with_reducible apply Ext.step | with_reducible assumption | with_reducible exact Nat.le_refl _ | (simp; done) | (simp; omega)))) hx
  clear hx
  try (have hs0 := δ.lt (w.heap.size) (by first | (simp; done) | (simp; omega)))
  go_wp2_with fail
  refine (HF.out _ (by (repeat' (first | with_reducible exact Ext.refl _ | with_reducible apply Ext.alloc | with_reducible apply Ext.drew | with_reducible apply Ext.drewN | with_reducible refine Ext.setCell ?_ ?_ _ | with_reducible apply Ext.step | with_reducible assumption | with_reducible exact Nat.le_refl _ | (simp; done) | (simp; omega))))).mono ?_
  rintro e W1 ⟨rfl, x1⟩
  have y1 : Ext (w.alloc (.cells #[.int .i64 0, .int .i64 0] 45)) W1 := Ext.trans (by (repeat' (first | with_reducible exact Ext.refl _ | with_reducible apply Ext.alloc | with_reducible apply Ext.drew | with_reducible apply Ext.drewN | with_reducible refine Ext.setCell ?_ ?_ _ | with_reducible apply Ext.step | with_reducible assumption | with_reducible exact Nat.le_refl _ | (simp; done) | (simp; omega)))) x1
  have c0 := y1.cell_some (show (w.alloc (.cells #[.int .i64 0, .int .i64 0] 45)).cell? ⟨w.heap.size, 0, none⟩ = some (.int .i64 0) by go_cell)
  have c1 := y1.cell_some (show (w.alloc (.cells #[.int .i64 0, .int .i64 0] 45)).cell? ⟨w.heap.size, 1, none⟩ = some (.int .i64 0) by go_cell)
  have f0 := y1.frozen (b := w.heap.size) (o := 0) (v := .int .i64 0) (c := false) (by go_cell) (by go_simp)
  have f1 := y1.frozen (b := w.heap.size) (o := 1) (v := .int .i64 0) (c := false) (by go_cell) (by go_simp)
  have lw := cell_lt c0
  have HW1 := Lib.hid (show Ext w W1 from Ext.trans (by (repeat' (first | with_reducible exact Ext.refl _ | with_reducible apply Ext.alloc | with_reducible apply Ext.drew | with_reducible apply Ext.drewN | with_reducible refine Ext.setCell ?_ ?_ _ | with_reducible apply Ext.step | with_reducible assumption | with_reducible exact Nat.le_refl _ | (simp; done) | (simp; omega)))) y1)
  clear x1 y1 HX HY HL HM HF
  go_wp2_with fail
  refine wp_region_bext (by kernel_rfl) (by kernel_rfl) ?_
  repeat (any_goals (go_big_quiet_step (fail)))
  all_goals refine wpQuiet_nil ?_
  all_goals rintro _ ⟨δ, rfl⟩
  go_wp2_with fail
  go_loopw [7, 8] (fun u v wr => ∃ x y : Int, u = .int .i64 x ∧ v = .int .i64 y ∧ (0 ≤ x ∧ x ≤ 937024000000000000) ∧ (0 ≤ y ∧ y ≤ 937024000000000000) ∧ GcdG p q x y ∧ Ext (W1.alloc (.cells #[.int .i64 p, .int .i64 q] 122)) wr) (fun _ v _ => (intOf v).natAbs)
  case atStart => exact ⟨p, q, rfl, rfl, ⟨hp0, hp1⟩, ⟨by omega, by omega⟩, rfl, by (repeat' (first | with_reducible exact Ext.refl _ | with_reducible apply Ext.alloc | with_reducible apply Ext.drew | with_reducible apply Ext.drewN | with_reducible refine Ext.setCell ?_ ?_ _ | with_reducible apply Ext.step | with_reducible assumption | with_reducible exact Nat.le_refl _ | (simp; done) | (simp; omega)))⟩
  case round =>
    obtain ⟨x, y, rfl, rfl, ⟨hx1, hx2⟩, ⟨hy1, hy2⟩, hg, hw⟩ := hrel
    by_cases hy : y = 0
    · subst hy
      have hxg : x = (Int.gcd p q : Int) := by
        unfold GcdG at hg
        rw [← hg]
        simp
        omega
      have d0 := hw.cell_some (show (W1.alloc (.cells #[.int .i64 p, .int .i64 q] 122)).cell? ⟨W1.heap.size, 0, none⟩ = some (.int .i64 p) by go_cell)
      have d1 := hw.cell_some (show (W1.alloc (.cells #[.int .i64 p, .int .i64 q] 122)).cell? ⟨W1.heap.size, 1, none⟩ = some (.int .i64 q) by go_cell)
      obtain ⟨g, hgq, g1, gp, gq, gg⟩ := gcd_parts (n := p) hq0
      rw [← hgq] at hxg
      subst hxg
      have HLO := Lib.hid (show lowF p q = (p / x, q / x) by rw [lowF, ← hgq])
      have hx0 : ¬ x = 0 := by omega
      have i1 := Int.ediv_nonneg hp0 (show 0 ≤ x by omega)
      have i2 := Int.ediv_le_self x hp0
      have i3 := Int.ediv_nonneg (show 0 ≤ q by omega) (show 0 ≤ x by omega)
      have i4 := Int.ediv_le_self x (show 0 ≤ q by omega)
      have hw1 : Ext W1 wr := Ext.trans (by (repeat' (first | with_reducible exact Ext.refl _ | with_reducible apply Ext.alloc | with_reducible apply Ext.drew | with_reducible apply Ext.drewN | with_reducible refine Ext.setCell ?_ ?_ _ | with_reducible apply Ext.step | with_reducible assumption | with_reducible exact Nat.le_refl _ | (simp; done) | (simp; omega)))) hw
      have e0 := hw1.cell_some c0
      have e1 := hw1.cell_some c1
      have g0 := hw1.frozen c0 f0
      have g1 := hw1.frozen c1 f1
      have HWR := Lib.hid (HW1.out.trans hw1)
      have lr := cell_lt e0
      have ld := cell_lt d0
      clear c0 c1 f0 f1 hw hw1 hgq gp gq hg
      go_wp2_with fail
      refine wp_region_still_tail 9 (by kernel_rfl) (by kernel_rfl) ?_
      simp only [List.take_succ_cons, List.take_zero, List.drop_succ_cons, List.drop_zero]
      repeat (refine wpStill_step (fun K hK => ?_); go_simp; (try go_bits); refine hK _ ?_; clear hK K)
      refine wpStill_nil ?_
      change wpList _ _ _ _ _ wr.drew
      go_wp2_with fail
      have z0 := cell_set_same (u := .int .i64 (p / x)) e0
      have z1 := (set2 e0 e1 (.int .i64 (p / x)) (.int .i64 (q / x))).2
      exact bodyPost_ret (v := .tuple #[V2 (p / x) (q / x), .int .i64 0]) (by simp [results, Try.results29, go_sem, z0, z1]) rfl ⟨by rw [HP.out, HLO.out, HE.out], ((HWR.out.setCell (by simp) _).setCell (by simp) _).drew⟩
    · have hyb : (y != 0) = true := by simpa using hy
      have hm := Int.natAbs_tmod x y
      have hm2 := Nat.mod_lt x.natAbs (show 0 < y.natAbs by omega)
      have hm3 : (x.tmod y).natAbs < y.natAbs := by omega
      have Hm := Lib.hid hm3
      have hm4 : 0 ≤ x.tmod y := Int.tmod_nonneg _ hx1
      have hm5 : x.tmod y ≤ 937024000000000000 := by omega
      have Hg := Lib.hid (show GcdG p q y (x.tmod y) from (gcdG_step x y).trans hg)
      have HM4 := Lib.hid hm4
      have HM5 := Lib.hid hm5
      have HMM := Lib.hid (Int.tmod_eq_emod_of_nonneg hx1 (b := y))
      clear hm hm2 hm3 hg hm4 hm5
      go_wp2_with fail
      refine wp_region_bext (by kernel_rfl) (by kernel_rfl) ?_
      repeat (any_goals (go_big_quiet_step (fail)))
      all_goals refine wpQuiet_nil ?_
      all_goals rintro _ ⟨δ, rfl⟩
      go_wp2_with fail
      go_roundw
      case rel => first | exact ⟨y, x.tmod y, rfl, rfl, ⟨hy1, hy2⟩, ⟨HM4.out, HM5.out⟩, Hg.out, by (repeat' (first | with_reducible exact Ext.refl _ | with_reducible apply Ext.alloc | with_reducible apply Ext.drew | with_reducible apply Ext.drewN | with_reducible refine Ext.setCell ?_ ?_ _ | with_reducible apply Ext.step | with_reducible assumption | with_reducible exact Nat.le_refl _ | (simp; done) | (simp; omega)))⟩ | exact ⟨y, x % y, rfl, rfl, ⟨hy1, hy2⟩, ⟨HMM.out ▸ HM4.out, HMM.out ▸ HM5.out⟩, HMM.out ▸ Hg.out, by (repeat' (first | with_reducible exact Ext.refl _ | with_reducible apply Ext.alloc | with_reducible apply Ext.drew | with_reducible apply Ext.drewN | with_reducible refine Ext.setCell ?_ ?_ _ | with_reducible apply Ext.step | with_reducible assumption | with_reducible exact Nat.le_refl _ | (simp; done) | (simp; omega)))⟩
      case measure => first | simpa [intOf] using Hm.out | simpa [intOf, HMM.out] using Hm.out

set_option maxRecDepth 100000 in
set_option maxHeartbeats 4000000 in
theorem apart2_any (v u : Value) (xs ys : List (Int × Int)) (n : Int) (w : World) (hx : spotK.Is w v xs) (hy : spotK.Is w u ys) :
    Calls Try.prog 31 #[v, u, .int .i64 n] w fun e w' => e = .returned (.tuple #[.bool (apB xs ys n), .int .i64 (apE xs ys n)]) ∧ Ext w w' := by
  have HX := Lib.hid hx
  have HY := Lib.hid hy
  obtain ⟨A, k, c, rfl, _⟩ := hx.open_
  obtain ⟨A', k', c', rfl, _⟩ := hy.open_
  clear hx hy
  have HL := Lib.hid fun (W : World) (x : Ext w W) => isLine_any _ xs W (HX.out.ext x)
  have HM := Lib.hid fun (W : World) (x : Ext w W) => isLine_any _ ys W (HY.out.ext x)
  cases h1 : lineB xs
  · have HE := Lib.hid (show apE xs ys n = 2 by simp [apE, h1])
    have HP := Lib.hid (show apB xs ys n = false by simp [apB, h1])
    rw [h1] at HL
    go_enter Try.func31, Try.ntmps31
    go_wp2_with fail
    refine (HL.out _ (by (repeat' (first | with_reducible exact Ext.refl _ | with_reducible apply Ext.alloc | with_reducible apply Ext.drew | with_reducible apply Ext.drewN | with_reducible refine Ext.setCell ?_ ?_ _ | with_reducible apply Ext.step | with_reducible assumption | with_reducible exact Nat.le_refl _ | (simp; done) | (simp; omega))))).mono ?_
    rintro e _ ⟨rfl, hx⟩
    obtain ⟨δ, rfl⟩ : Ext (w) _ := Ext.trans (by (repeat' (first | with_reducible exact Ext.refl _ | with_reducible apply Ext.alloc | with_reducible apply Ext.drew | with_reducible apply Ext.drewN | with_reducible refine Ext.setCell ?_ ?_ _ | with_reducible apply Ext.step | with_reducible assumption | with_reducible exact Nat.le_refl _ | (simp; done) | (simp; omega)))) hx
    clear hx
    go_wp2_with fail
    go_ret2
    exact ⟨by rw [HE.out, HP.out]; rfl, by (repeat' (first | with_reducible exact Ext.refl _ | with_reducible apply Ext.alloc | with_reducible apply Ext.drew | with_reducible apply Ext.drewN | with_reducible refine Ext.setCell ?_ ?_ _ | with_reducible apply Ext.step | with_reducible assumption | with_reducible exact Nat.le_refl _ | (simp; done) | (simp; omega)))⟩
  rw [h1] at HL
  cases h2 : lineB ys
  · have HE := Lib.hid (show apE xs ys n = 2 by simp [apE, h1, h2])
    have HP := Lib.hid (show apB xs ys n = false by simp [apB, h1, h2])
    rw [h2] at HM
    go_enter Try.func31, Try.ntmps31
    go_wp2_with fail
    refine (HL.out _ (by (repeat' (first | with_reducible exact Ext.refl _ | with_reducible apply Ext.alloc | with_reducible apply Ext.drew | with_reducible apply Ext.drewN | with_reducible refine Ext.setCell ?_ ?_ _ | with_reducible apply Ext.step | with_reducible assumption | with_reducible exact Nat.le_refl _ | (simp; done) | (simp; omega))))).mono ?_
    rintro e _ ⟨rfl, hx⟩
    obtain ⟨δ, rfl⟩ : Ext (w) _ := Ext.trans (by (repeat' (first | with_reducible exact Ext.refl _ | with_reducible apply Ext.alloc | with_reducible apply Ext.drew | with_reducible apply Ext.drewN | with_reducible refine Ext.setCell ?_ ?_ _ | with_reducible apply Ext.step | with_reducible assumption | with_reducible exact Nat.le_refl _ | (simp; done) | (simp; omega)))) hx
    clear hx
    go_wp2_with fail
    refine (HM.out _ (by (repeat' (first | with_reducible exact Ext.refl _ | with_reducible apply Ext.alloc | with_reducible apply Ext.drew | with_reducible apply Ext.drewN | with_reducible refine Ext.setCell ?_ ?_ _ | with_reducible apply Ext.step | with_reducible assumption | with_reducible exact Nat.le_refl _ | (simp; done) | (simp; omega))))).mono ?_
    rintro e _ ⟨rfl, hx⟩
    obtain ⟨δ, rfl⟩ : Ext (w) _ := Ext.trans (by (repeat' (first | with_reducible exact Ext.refl _ | with_reducible apply Ext.alloc | with_reducible apply Ext.drew | with_reducible apply Ext.drewN | with_reducible refine Ext.setCell ?_ ?_ _ | with_reducible apply Ext.step | with_reducible assumption | with_reducible exact Nat.le_refl _ | (simp; done) | (simp; omega)))) hx
    clear hx
    go_wp2_with fail
    go_ret2
    exact ⟨by rw [HE.out, HP.out]; rfl, by (repeat' (first | with_reducible exact Ext.refl _ | with_reducible apply Ext.alloc | with_reducible apply Ext.drew | with_reducible apply Ext.drewN | with_reducible refine Ext.setCell ?_ ?_ _ | with_reducible apply Ext.step | with_reducible assumption | with_reducible exact Nat.le_refl _ | (simp; done) | (simp; omega)))⟩
  rw [h2] at HM
  cases h3 : inB 0 30000 n
  · have HE := Lib.hid (show apE xs ys n = 2 by simp [apE, h1, h2, h3])
    have HP := Lib.hid (show apB xs ys n = false by simp [apB, h1, h2, h3])
    go_enter Try.func31, Try.ntmps31
    go_wp2_with fail
    refine (HL.out _ (by (repeat' (first | with_reducible exact Ext.refl _ | with_reducible apply Ext.alloc | with_reducible apply Ext.drew | with_reducible apply Ext.drewN | with_reducible refine Ext.setCell ?_ ?_ _ | with_reducible apply Ext.step | with_reducible assumption | with_reducible exact Nat.le_refl _ | (simp; done) | (simp; omega))))).mono ?_
    rintro e _ ⟨rfl, hx⟩
    obtain ⟨δ, rfl⟩ : Ext (w) _ := Ext.trans (by (repeat' (first | with_reducible exact Ext.refl _ | with_reducible apply Ext.alloc | with_reducible apply Ext.drew | with_reducible apply Ext.drewN | with_reducible refine Ext.setCell ?_ ?_ _ | with_reducible apply Ext.step | with_reducible assumption | with_reducible exact Nat.le_refl _ | (simp; done) | (simp; omega)))) hx
    clear hx
    go_wp2_with fail
    refine (HM.out _ (by (repeat' (first | with_reducible exact Ext.refl _ | with_reducible apply Ext.alloc | with_reducible apply Ext.drew | with_reducible apply Ext.drewN | with_reducible refine Ext.setCell ?_ ?_ _ | with_reducible apply Ext.step | with_reducible assumption | with_reducible exact Nat.le_refl _ | (simp; done) | (simp; omega))))).mono ?_
    rintro e _ ⟨rfl, hx⟩
    obtain ⟨δ, rfl⟩ : Ext (w) _ := Ext.trans (by (repeat' (first | with_reducible exact Ext.refl _ | with_reducible apply Ext.alloc | with_reducible apply Ext.drew | with_reducible apply Ext.drewN | with_reducible refine Ext.setCell ?_ ?_ _ | with_reducible apply Ext.step | with_reducible assumption | with_reducible exact Nat.le_refl _ | (simp; done) | (simp; omega)))) hx
    clear hx
    go_wp2_with fail
    refine (from_one _ n _ _ _ _ (by go_cell)).mono ?_
    rintro e _ ⟨rfl, hx⟩
    obtain ⟨δ, rfl⟩ : Ext (w) _ := Ext.trans (by (repeat' (first | with_reducible exact Ext.refl _ | with_reducible apply Ext.alloc | with_reducible apply Ext.drew | with_reducible apply Ext.drewN | with_reducible refine Ext.setCell ?_ ?_ _ | with_reducible apply Ext.step | with_reducible assumption | with_reducible exact Nat.le_refl _ | (simp; done) | (simp; omega)))) hx
    clear hx
    go_wp2_with fail
    go_ret2
    exact ⟨by rw [HE.out, HP.out]; rfl, by (repeat' (first | with_reducible exact Ext.refl _ | with_reducible apply Ext.alloc | with_reducible apply Ext.drew | with_reducible apply Ext.drewN | with_reducible refine Ext.setCell ?_ ?_ _ | with_reducible apply Ext.step | with_reducible assumption | with_reducible exact Nat.le_refl _ | (simp; done) | (simp; omega)))⟩
  · have HE := Lib.hid (show apE xs ys n = 0 by simp [apE, h1, h2, h3])
    have HP := Lib.hid (show apB xs ys n = !nearB xs ys n by simp [apB, h1, h2, h3])
    obtain ⟨hn0, hn1⟩ := inB_iff.1 h3
    have HN := Lib.hid fun (W : World) (x : Ext w W) => near_any _ _ xs ys n W (HX.out.ext x) (HY.out.ext x) (lineB_len h1) (lineB_len h2) (lineB_co h1) (lineB_co h2) hn0 (by omega)
    go_enter Try.func31, Try.ntmps31
    go_wp2_with fail
    refine (HL.out _ (by (repeat' (first | with_reducible exact Ext.refl _ | with_reducible apply Ext.alloc | with_reducible apply Ext.drew | with_reducible apply Ext.drewN | with_reducible refine Ext.setCell ?_ ?_ _ | with_reducible apply Ext.step | with_reducible assumption | with_reducible exact Nat.le_refl _ | (simp; done) | (simp; omega))))).mono ?_
    rintro e _ ⟨rfl, hx⟩
    obtain ⟨δ, rfl⟩ : Ext (w) _ := Ext.trans (by (repeat' (first | with_reducible exact Ext.refl _ | with_reducible apply Ext.alloc | with_reducible apply Ext.drew | with_reducible apply Ext.drewN | with_reducible refine Ext.setCell ?_ ?_ _ | with_reducible apply Ext.step | with_reducible assumption | with_reducible exact Nat.le_refl _ | (simp; done) | (simp; omega)))) hx
    clear hx
    go_wp2_with fail
    refine (HM.out _ (by (repeat' (first | with_reducible exact Ext.refl _ | with_reducible apply Ext.alloc | with_reducible apply Ext.drew | with_reducible apply Ext.drewN | with_reducible refine Ext.setCell ?_ ?_ _ | with_reducible apply Ext.step | with_reducible assumption | with_reducible exact Nat.le_refl _ | (simp; done) | (simp; omega))))).mono ?_
    rintro e _ ⟨rfl, hx⟩
    obtain ⟨δ, rfl⟩ : Ext (w) _ := Ext.trans (by (repeat' (first | with_reducible exact Ext.refl _ | with_reducible apply Ext.alloc | with_reducible apply Ext.drew | with_reducible apply Ext.drewN | with_reducible refine Ext.setCell ?_ ?_ _ | with_reducible apply Ext.step | with_reducible assumption | with_reducible exact Nat.le_refl _ | (simp; done) | (simp; omega)))) hx
    clear hx
    go_wp2_with fail
    refine (from_one _ n _ _ _ _ (by go_cell)).mono ?_
    rintro e _ ⟨rfl, hx⟩
    obtain ⟨δ, rfl⟩ : Ext (w) _ := Ext.trans (by (repeat' (first | with_reducible exact Ext.refl _ | with_reducible apply Ext.alloc | with_reducible apply Ext.drew | with_reducible apply Ext.drewN | with_reducible refine Ext.setCell ?_ ?_ _ | with_reducible apply Ext.step | with_reducible assumption | with_reducible exact Nat.le_refl _ | (simp; done) | (simp; omega)))) hx
    clear hx
    go_wp2_with fail
    refine (HN.out _ (by (repeat' (first | with_reducible exact Ext.refl _ | with_reducible apply Ext.alloc | with_reducible apply Ext.drew | with_reducible apply Ext.drewN | with_reducible refine Ext.setCell ?_ ?_ _ | with_reducible apply Ext.step | with_reducible assumption | with_reducible exact Nat.le_refl _ | (simp; done) | (simp; omega))))).mono ?_
    rintro e _ ⟨rfl, hx⟩
    obtain ⟨δ, rfl⟩ : Ext (w) _ := Ext.trans (by (repeat' (first | with_reducible exact Ext.refl _ | with_reducible apply Ext.alloc | with_reducible apply Ext.drew | with_reducible apply Ext.drewN | with_reducible refine Ext.setCell ?_ ?_ _ | with_reducible apply Ext.step | with_reducible assumption | with_reducible exact Nat.le_refl _ | (simp; done) | (simp; omega)))) hx
    clear hx
    go_wp2_with fail
    go_ret2
    exact ⟨by rw [HE.out, HP.out]; rfl, by (repeat' (first | with_reducible exact Ext.refl _ | with_reducible apply Ext.alloc | with_reducible apply Ext.drew | with_reducible apply Ext.drewN | with_reducible refine Ext.setCell ?_ ?_ _ | with_reducible apply Ext.step | with_reducible assumption | with_reducible exact Nat.le_refl _ | (simp; done) | (simp; omega)))⟩
end Go.Proofs.Ytgeapenglcohfaa
