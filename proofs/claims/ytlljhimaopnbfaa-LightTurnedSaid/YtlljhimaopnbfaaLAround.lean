/- barleycornlaw06.around. Conditions: the heights read as a list, a valid surface. -/
import Derived.Test.YtlljhimaopnbfaaLArP
import Derived.Test.YtlljhimaopnbfaaQDag
import Derived.Laws.OwnMore
import Derived.Deep.OwnRows
namespace Go.Proofs.Ytlljhimaopnbfaa
open Go.RowKit

def ArRet (n m : Nat) (P : Int) (mi : Bool) (hs : List Int) (w : World) (e : Ending) (w' : World) : Prop := ∃ v zs, e = .returned (surfV ((turnN n m mi : Int) + 1) ((turnM n m mi : Int) + 1) P v) ∧ intK.Own w.heap.size w' v zs ∧ ArEnd n m mi hs zs ∧ Ext w w'
/-- A surface in a box. -/
structure ArBox (W : World) (b : Nat) (c0 c1 c2 c3 : Value) : Prop where
  c0 : W.cell? ⟨b, 0, none⟩ = some c0
  c1 : W.cell? ⟨b, 1, none⟩ = some c1
  c2 : W.cell? ⟨b, 2, none⟩ = some c2
  c3 : W.cell? ⟨b, 3, none⟩ = some c3
  f0 : W.frozen? ⟨b, 0, none⟩ = false
  f1 : W.frozen? ⟨b, 1, none⟩ = false
  f2 : W.frozen? ⟨b, 2, none⟩ = false
  f3 : W.frozen? ⟨b, 3, none⟩ = false
theorem ArBox.new (W : World) (c0 c1 c2 c3 : Value) : ArBox (W.alloc (.cells #[c0, c1, c2, c3] 37)) W.heap.size c0 c1 c2 c3 :=
  ⟨cell_new rfl, cell_new rfl, cell_new rfl, cell_new rfl, by go_simp, by go_simp, by go_simp, by go_simp⟩
theorem ArBox.but {W W' : World} {D : List Nat} {b : Nat} {c0 c1 c2 c3 : Value} (h : ArBox W b c0 c1 c2 c3) (x : But D W W') (hb : b ∉ D) : ArBox W' b c0 c1 c2 c3 :=
  ⟨x.cell h.c0 hb, x.cell h.c1 hb, x.cell h.c2 hb, x.cell h.c3 hb, x.frozen h.c0 h.f0 hb, x.frozen h.c1 h.f1 hb, x.frozen h.c2 h.f2 hb, x.frozen h.c3 h.f3 hb⟩
theorem ArBox.ext {W W' : World} {b : Nat} {c0 c1 c2 c3 : Value} (h : ArBox W b c0 c1 c2 c3) (x : Ext W W') : ArBox W' b c0 c1 c2 c3 :=
  h.but (D := []) x.but (by simp)
theorem ArBox.put {W : World} {b : Nat} {c0 c1 c2 c3 : Value} (h : ArBox W b c0 c1 c2 c3) (u0 u1 u2 u3 : Value) : ArBox ((((W.setCell ⟨b, 0, none⟩ u0).setCell ⟨b, 1, none⟩ u1).setCell ⟨b, 2, none⟩ u2).setCell ⟨b, 3, none⟩ u3) b u0 u1 u2 u3 := by
  obtain ⟨a, c, d, e⟩ := set4 h.c0 h.c1 h.c2 h.c3 u0 u1 u2 u3
  refine ⟨a, c, d, e, ?_, ?_, ?_, ?_⟩
  all_goals rw [World.frozen?_setCell, World.frozen?_setCell, World.frozen?_setCell, World.frozen?_setCell]
  · exact h.f0
  · exact h.f1
  · exact h.f2
  · exact h.f3
theorem but_put4 {W0 W : World} {D : List Nat} (x : But D W0 W) {b : Nat} (hb : b ∈ D) (u0 u1 u2 u3 : Value) : But D W0 ((((W.setCell ⟨b, 0, none⟩ u0).setCell ⟨b, 1, none⟩ u1).setCell ⟨b, 2, none⟩ u2).setCell ⟨b, 3, none⟩ u3) :=
  (((x.setCell (p := ⟨b, 0, none⟩) hb u0).setCell (p := ⟨b, 1, none⟩) hb u1).setCell (p := ⟨b, 2, none⟩) hb u2).setCell (p := ⟨b, 3, none⟩) hb u3
theorem grown_put4 (W : World) (b : Nat) (u0 u1 u2 u3 : Value) : W.grownBy ((((W.setCell ⟨b, 0, none⟩ u0).setCell ⟨b, 1, none⟩ u1).setCell ⟨b, 2, none⟩ u2).setCell ⟨b, 3, none⟩ u3) (some b) :=
  (((grown_set W b 0 u0).trans (grown_set _ b 1 u1)).trans (grown_set _ b 2 u2)).trans (grown_set _ b 3 u3)
theorem ArBox.put0 {W : World} {b : Nat} {c0 c1 c2 c3 : Value} (h : ArBox W b c0 c1 c2 c3) (u : Value) : ArBox (W.setCell ⟨b, 0, none⟩ u) b u c1 c2 c3 :=
  ⟨cell_set_same h.c0, (cell_set_other (.inr (by decide))).trans h.c1, (cell_set_other (.inr (by decide))).trans h.c2, (cell_set_other (.inr (by decide))).trans h.c3, (World.frozen?_setCell ..).trans h.f0, (World.frozen?_setCell ..).trans h.f1, (World.frozen?_setCell ..).trans h.f2, (World.frozen?_setCell ..).trans h.f3⟩
theorem ArBox.put1 {W : World} {b : Nat} {c0 c1 c2 c3 : Value} (h : ArBox W b c0 c1 c2 c3) (u : Value) : ArBox (W.setCell ⟨b, 1, none⟩ u) b c0 u c2 c3 :=
  ⟨(cell_set_other (.inr (by decide))).trans h.c0, cell_set_same h.c1, (cell_set_other (.inr (by decide))).trans h.c2, (cell_set_other (.inr (by decide))).trans h.c3, (World.frozen?_setCell ..).trans h.f0, (World.frozen?_setCell ..).trans h.f1, (World.frozen?_setCell ..).trans h.f2, (World.frozen?_setCell ..).trans h.f3⟩
theorem own_zero (W : World) (B N : Nat) (hB : B ≤ W.heap.size) (hN : N ≤ 1000) : intK.Own B (W.alloc (.cells (madeCells #[.int .i64 0] N) 3)) (.slice (some ⟨W.heap.size, 0, none⟩) N N) (List.replicate N 0) := by
  have := EK.Own.lit (K := intK) (B := B) W (madeCells #[.int .i64 0] N) (List.replicate N 0) (by rw [toList_madeCells_one, flat_ints, List.map_replicate]) hB (by simp [maxLen]; omega)
  rw [List.length_replicate] at this
  exact this
/-- What lies there ahead of the loops. -/
structure ArAt (n m : Nat) (P : Int) (mi : Bool) (N : Nat) (W0 : World) (b5 g : Nat) (zs : List Int) (W : World) : Prop where
  own : intK.Own W0.heap.size W (.slice (some ⟨g, 0, none⟩) N N) zs
  box : ArBox W b5 (.int .i64 ((turnN n m mi : Nat) + 1 : Int)) (.int .i64 ((turnM n m mi : Nat) + 1 : Int)) (.int .i64 P) (.slice (some ⟨g, 0, none⟩) N N)
  le : W0.heap.size ≤ b5
  gle : W0.heap.size ≤ g
  ne : b5 ≠ g
  ext : Ext W0 W

set_option maxRecDepth 100000 in
set_option maxHeartbeats 8000000 in
theorem around_any (n m : Nat) (P : Int) (mi : Bool) (hv : Value) (hs : List Int) (w : World) (hI : intK.Is w hv hs) (hb : surfB ((n : Int) + 1) ((m : Int) + 1) P hs = true) :
    Calls Try.prog 57 #[surfV ((n : Int) + 1) ((m : Int) + 1) P hv, .bool mi] w (ArRet n m P mi hs w) := by
  obtain ⟨A, N, c, rfl, hN, _, hr, hm⟩ := hI.open_
  obtain ⟨⟨h1, h2⟩, ⟨h3, h4⟩, h5, h6, h7⟩ := surfB_iff.1 hb
  have hmn := Nat.mul_le_mul (show n + 1 ≤ 24 by omega) (show m + 1 ≤ 24 by omega)
  have hNe : N = (n + 1) * (m + 1) := by
    rw [hN] at h6
    exact_mod_cast h6
  have hN5 : N ≤ 576 := by omega
  have HR := Lib.hid hr
  have HN := Lib.hid hN
  have HNE := Lib.hid hNe
  have HBD := Lib.hid fun i => hA_bd h7 i
  have hmk : ∀ w : World, (Instr.makeSlice 35 (.int .i64 (N : Int)) (.int .i64 (N : Int))).run Try.prog w = .ok (.slice (some ⟨w.heap.size, 0, none⟩) N N) (w.alloc (.cells (madeCells #[.int .i64 0] N) 3)) := fun w =>
    run_make_row' (P := Try.prog) 35 3 (.int .i64 0) 8 Try.underlying35 intInfo rfl .i64 .i64 N (by omega) (by omega) w
  have hn23 : n ≤ 23 := by omega
  have hm23 : m ≤ 23 := by omega
  clear hI hb hr hN hNe h6 h7 h5 hmn hm
  go_enter Try.func57, Try.ntmps57
  go_wp2_with fail
  refine lay_wp (fun W => Ext w W ∧ ArBox W w.heap.size (.int .i64 ((n : Int) + 1)) (.int .i64 ((m : Int) + 1)) (.int .i64 P) (.slice A N c) ∧ ArBox W (w.heap.size + 1) (.int .i64 0) (.int .i64 0) (.int .i64 0) (.slice none 0 0)) ⟨by (repeat' (first | with_reducible exact Ext.refl _ | with_reducible apply Ext.alloc | with_reducible apply Ext.drew | with_reducible apply Ext.drewN | with_reducible refine Ext.setCell ?_ ?_ _ | with_reducible apply Ext.step | with_reducible assumption | with_reducible exact Nat.le_refl _ | (simp; done) | (simp; omega))), (ArBox.new w _ _ _ _).ext ((Ext.refl _).alloc _), by have := ArBox.new (w.alloc (.cells #[.int .i64 ((n : Int) + 1), .int .i64 ((m : Int) + 1), .int .i64 P, .slice A N c] 37)) (.int .i64 0) (.int .i64 0) (.int .i64 0) (.slice none 0 0); simpa using this⟩ ?_
  rintro W0 ⟨x0, hA, hR⟩
  have HX0 := Lib.hid x0
  have HA := Lib.hid hA
  have HRB := Lib.hid hR
  clear x0 hA hR
  refine late (S := ?lateS) ?lateM ?lateP
  case lateM =>
    intro HT
    have a0 := HA.out.c0
    have a1 := HA.out.c1
    have a2 := HA.out.c2
    have a3 := HA.out.c3
    have la := cell_lt a0
    refine (wpIn_wide (n := 3)).1 ?_
    refine wpIn_region_tree (B := W0.heap.size) 12 [0, 1, 2, 3, 4, 5, 6, 7, 8] (Nat.le_refl _) (by kernel_rfl) (by decide +kernel) ?_
    repeat (refine wpQ_step (by rfl) (fun _ _ _ => trivial) (fun K hK => ?_); go_simp; refine hK _ ?_; clear hK K)
    refine wpQ_nil ?_
    have HXT := Lib.hid (Ext.refl W0)
    change wpAnyT _ _ _ _ _ _ _ _ _ (2 + 1) _ _ _
    refine wpAnyT_step [9, 11] (by decide +kernel) (by decide) (by decide) ?_
    intro i hi
    simp only [List.mem_cons, List.not_mem_nil, or_false] at hi
    rcases hi with rfl | rfl
    · refine ⟨_, by rfl, midT_step (by rfl) (fun _ _ _ => trivial) (fun δ K' hK' => ?_)⟩
      have E1 := Lib.hid (show Ext _ δ.wd from ⟨δ, rfl⟩)
      have HX1 := Lib.hid (HXT.out.trans E1.out)
      go_simp
      refine ⟨((Below.refl _ _).alloc HX1.out.bel.size _), hK' _ _ ?_⟩
      have HG := Lib.hid (own_zero δ.wd W0.heap.size N HX1.out.bel.size (by omega))
      have HXT := Lib.hid (HX1.out.alloc (.cells (madeCells #[.int .i64 0] N) 3))
      obtain ⟨g, hg⟩ : ∃ g, g = δ.wd.heap.size := ⟨_, rfl⟩
      rw [← hg] at HG ⊢
      have HGG := Lib.hid (show W0.heap.size ≤ g by rw [hg]; exact HX1.out.bel.size)
      clear hK' hg
      refine wpAnyT_step [10, 11] (by decide +kernel) (by decide) (by decide) ?_
      intro i hi
      simp only [List.mem_cons, List.not_mem_nil, or_false] at hi
      rcases hi with rfl | rfl
      · refine ⟨_, by rfl, midT_step (by rfl) (fun _ _ _ => trivial) (fun δ K' hK' => ?_)⟩
        have E1 := Lib.hid (show Ext _ δ.wd from ⟨δ, rfl⟩)
        have HX1 := Lib.hid (HXT.out.trans E1.out)
        replace HG := Lib.hid (HG.out.ext E1.out)
        go_simp
        refine ⟨Below.refl _ _, hK' _ _ ?_⟩
        have HXT := HX1
        clear hK'
        refine wpAnyT_step [11] (by decide +kernel) (by decide) (by decide) ?_
        intro i hi
        simp only [List.mem_cons, List.not_mem_nil, or_false] at hi
        subst hi
        refine ⟨_, by rfl, midT_step (by rfl) (fun _ _ _ => trivial) (fun δ K' hK' => ?_)⟩
        have E1 := Lib.hid (show Ext _ δ.wd from ⟨δ, rfl⟩)
        have HX1 := Lib.hid (HXT.out.trans E1.out)
        replace HG := Lib.hid (HG.out.ext E1.out)
        go_simp
        refine ⟨((Below.refl _ _).alloc HX1.out.bel.size _), hK' _ _ ?_⟩
        have HB := Lib.hid (ArBox.new δ.wd (.int .i64 0) (.int .i64 0) (.int .i64 0) (.slice none 0 0))
        have HXT := Lib.hid (HX1.out.alloc (.cells #[.int .i64 0, .int .i64 0, .int .i64 0, .slice none 0 0] 37))
        have HNE2 := Lib.hid (show δ.wd.heap.size ≠ g from Nat.ne_of_gt ((HG.out.lt g rfl).2))
        replace HG := Lib.hid (HG.out.ext ((Ext.refl _).alloc (.cells #[.int .i64 0, .int .i64 0, .int .i64 0, .slice none 0 0] 37)))
        obtain ⟨bx, hbx⟩ : ∃ bx, bx = δ.wd.heap.size := ⟨_, rfl⟩
        rw [← hbx] at HB ⊢ HNE2
        have HBL := Lib.hid (show W0.heap.size ≤ bx by rw [hbx]; exact HX1.out.bel.size)
        clear hK' hbx
        refine ⟨by decide +kernel, fun w4 x4 => ?_⟩
        replace HG := Lib.hid (HG.out.ext x4)
        replace HB := Lib.hid (HB.out.ext x4)
        have HX4 := Lib.hid (HXT.out.trans x4)
        have c0 := HB.out.c0
        have c1 := HB.out.c1
        have c2 := HB.out.c2
        have c3 := HB.out.c3
        have f0 := HB.out.f0
        have f1 := HB.out.f1
        have f2 := HB.out.f2
        have f3 := HB.out.f3
        have lx := cell_lt c0
        clear x4 a0 a1 a2 a3 la
        simp only [List.drop_succ_cons, List.drop_zero]
        gi_wp2
        refine lay_wp (fun W => ArAt n m P false N W0 bx g (List.replicate N 0) W) ⟨?_, HB.out.put _ _ _ _, HBL.out, HGG.out, HNE2.out, ?_⟩ ?_
        · exact HG.out.kept (grown_put4 _ bx _ _ _ _) (.inr (by simpa [Value.ownBlock] using fun e => HNE2.out e.symm))
        · exact (but_put4 (But.refl [bx] w4) (by simp) _ _ _ _).below HX4.out (by simp; exact HBL.out)
        clear c0 c1 c2 c3 f0 f1 f2 f3 lx HX4 HG HB HXT
        have hbl := HBL.out
        have hgg := HGG.out
        have hne := HNE2.out
        clear HBL HGG HNE2
        revert hbl
        revert hgg
        revert hne
        revert g
        revert bx
        exact HT.out
      · refine ⟨_, by rfl, midT_step (by rfl) (fun _ _ _ => trivial) (fun δ K' hK' => ?_)⟩
        have E1 := Lib.hid (show Ext _ δ.wd from ⟨δ, rfl⟩)
        have HX1 := Lib.hid (HXT.out.trans E1.out)
        replace HG := Lib.hid (HG.out.ext E1.out)
        go_simp
        refine ⟨((Below.refl _ _).alloc HX1.out.bel.size _), hK' _ _ ?_⟩
        have HB := Lib.hid (ArBox.new δ.wd (.int .i64 0) (.int .i64 0) (.int .i64 0) (.slice none 0 0))
        have HXT := Lib.hid (HX1.out.alloc (.cells #[.int .i64 0, .int .i64 0, .int .i64 0, .slice none 0 0] 37))
        have HNE2 := Lib.hid (show δ.wd.heap.size ≠ g from Nat.ne_of_gt ((HG.out.lt g rfl).2))
        replace HG := Lib.hid (HG.out.ext ((Ext.refl _).alloc (.cells #[.int .i64 0, .int .i64 0, .int .i64 0, .slice none 0 0] 37)))
        obtain ⟨bx, hbx⟩ : ∃ bx, bx = δ.wd.heap.size := ⟨_, rfl⟩
        rw [← hbx] at HB ⊢ HNE2
        have HBL := Lib.hid (show W0.heap.size ≤ bx by rw [hbx]; exact HX1.out.bel.size)
        clear hK' hbx
        refine wpAnyT_step [10] (by decide +kernel) (by decide) (by decide) ?_
        intro i hi
        simp only [List.mem_cons, List.not_mem_nil, or_false] at hi
        subst hi
        refine ⟨_, by rfl, midT_step (by rfl) (fun _ _ _ => trivial) (fun δ K' hK' => ?_)⟩
        have E1 := Lib.hid (show Ext _ δ.wd from ⟨δ, rfl⟩)
        have HX1 := Lib.hid (HXT.out.trans E1.out)
        replace HG := Lib.hid (HG.out.ext E1.out)
        replace HB := Lib.hid (HB.out.ext E1.out)
        go_simp
        refine ⟨Below.refl _ _, hK' _ _ ?_⟩
        have HXT := HX1
        clear hK'
        refine ⟨by decide +kernel, fun w4 x4 => ?_⟩
        replace HG := Lib.hid (HG.out.ext x4)
        replace HB := Lib.hid (HB.out.ext x4)
        have HX4 := Lib.hid (HXT.out.trans x4)
        have c0 := HB.out.c0
        have c1 := HB.out.c1
        have c2 := HB.out.c2
        have c3 := HB.out.c3
        have f0 := HB.out.f0
        have f1 := HB.out.f1
        have f2 := HB.out.f2
        have f3 := HB.out.f3
        have lx := cell_lt c0
        clear x4 a0 a1 a2 a3 la
        simp only [List.drop_succ_cons, List.drop_zero]
        gi_wp2
        refine lay_wp (fun W => ArAt n m P false N W0 bx g (List.replicate N 0) W) ⟨?_, HB.out.put _ _ _ _, HBL.out, HGG.out, HNE2.out, ?_⟩ ?_
        · exact HG.out.kept (grown_put4 _ bx _ _ _ _) (.inr (by simpa [Value.ownBlock] using fun e => HNE2.out e.symm))
        · exact (but_put4 (But.refl [bx] w4) (by simp) _ _ _ _).below HX4.out (by simp; exact HBL.out)
        clear c0 c1 c2 c3 f0 f1 f2 f3 lx HX4 HG HB HXT
        have hbl := HBL.out
        have hgg := HGG.out
        have hne := HNE2.out
        clear HBL HGG HNE2
        revert hbl
        revert hgg
        revert hne
        revert g
        revert bx
        exact HT.out
    · refine ⟨_, by rfl, midT_step (by rfl) (fun _ _ _ => trivial) (fun δ K' hK' => ?_)⟩
      have E1 := Lib.hid (show Ext _ δ.wd from ⟨δ, rfl⟩)
      have HX1 := Lib.hid (HXT.out.trans E1.out)
      go_simp
      refine ⟨((Below.refl _ _).alloc HX1.out.bel.size _), hK' _ _ ?_⟩
      have HB := Lib.hid (ArBox.new δ.wd (.int .i64 0) (.int .i64 0) (.int .i64 0) (.slice none 0 0))
      have HXT := Lib.hid (HX1.out.alloc (.cells #[.int .i64 0, .int .i64 0, .int .i64 0, .slice none 0 0] 37))
      obtain ⟨bx, hbx⟩ : ∃ bx, bx = δ.wd.heap.size := ⟨_, rfl⟩
      rw [← hbx] at HB ⊢
      have HBL := Lib.hid (show W0.heap.size ≤ bx by rw [hbx]; exact HX1.out.bel.size)
      clear hK' hbx
      refine wpAnyT_step [9] (by decide +kernel) (by decide) (by decide) ?_
      intro i hi
      simp only [List.mem_cons, List.not_mem_nil, or_false] at hi
      subst hi
      refine ⟨_, by rfl, midT_step (by rfl) (fun _ _ _ => trivial) (fun δ K' hK' => ?_)⟩
      have E1 := Lib.hid (show Ext _ δ.wd from ⟨δ, rfl⟩)
      have HX1 := Lib.hid (HXT.out.trans E1.out)
      replace HB := Lib.hid (HB.out.ext E1.out)
      go_simp
      refine ⟨((Below.refl _ _).alloc HX1.out.bel.size _), hK' _ _ ?_⟩
      have HG := Lib.hid (own_zero δ.wd W0.heap.size N HX1.out.bel.size (by omega))
      have HXT := Lib.hid (HX1.out.alloc (.cells (madeCells #[.int .i64 0] N) 3))
      have HNE2 := Lib.hid (show bx ≠ δ.wd.heap.size from Nat.ne_of_lt (cell_lt HB.out.c0))
      replace HB := Lib.hid (HB.out.ext ((Ext.refl _).alloc (.cells (madeCells #[.int .i64 0] N) 3)))
      obtain ⟨g, hg⟩ : ∃ g, g = δ.wd.heap.size := ⟨_, rfl⟩
      rw [← hg] at HG ⊢ HNE2
      have HGG := Lib.hid (show W0.heap.size ≤ g by rw [hg]; exact HX1.out.bel.size)
      clear hK' hg
      refine wpAnyT_step [10] (by decide +kernel) (by decide) (by decide) ?_
      intro i hi
      simp only [List.mem_cons, List.not_mem_nil, or_false] at hi
      subst hi
      refine ⟨_, by rfl, midT_step (by rfl) (fun _ _ _ => trivial) (fun δ K' hK' => ?_)⟩
      have E1 := Lib.hid (show Ext _ δ.wd from ⟨δ, rfl⟩)
      have HX1 := Lib.hid (HXT.out.trans E1.out)
      replace HG := Lib.hid (HG.out.ext E1.out)
      replace HB := Lib.hid (HB.out.ext E1.out)
      go_simp
      refine ⟨Below.refl _ _, hK' _ _ ?_⟩
      have HXT := HX1
      clear hK'
      refine ⟨by decide +kernel, fun w4 x4 => ?_⟩
      replace HG := Lib.hid (HG.out.ext x4)
      replace HB := Lib.hid (HB.out.ext x4)
      have HX4 := Lib.hid (HXT.out.trans x4)
      have c0 := HB.out.c0
      have c1 := HB.out.c1
      have c2 := HB.out.c2
      have c3 := HB.out.c3
      have f0 := HB.out.f0
      have f1 := HB.out.f1
      have f2 := HB.out.f2
      have f3 := HB.out.f3
      have lx := cell_lt c0
      clear x4 a0 a1 a2 a3 la
      simp only [List.drop_succ_cons, List.drop_zero]
      gi_wp2
      refine lay_wp (fun W => ArAt n m P false N W0 bx g (List.replicate N 0) W) ⟨?_, HB.out.put _ _ _ _, HBL.out, HGG.out, HNE2.out, ?_⟩ ?_
      · exact HG.out.kept (grown_put4 _ bx _ _ _ _) (.inr (by simpa [Value.ownBlock] using fun e => HNE2.out e.symm))
      · exact (but_put4 (But.refl [bx] w4) (by simp) _ _ _ _).below HX4.out (by simp; exact HBL.out)
      clear c0 c1 c2 c3 f0 f1 f2 f3 lx HX4 HG HB HXT
      have hbl := HBL.out
      have hgg := HGG.out
      have hne := HNE2.out
      clear HBL HGG HNE2
      revert hbl
      revert hgg
      revert hne
      revert g
      revert bx
      exact HT.out
  case lateP =>
    intro bx g hne hgg hbl W1 hat
    have HAT := Lib.hid hat
    have HBX := Lib.hid (And.intro hbl (And.intro hgg hne))
    have HZ0 := Lib.hid (show ArBd N (List.replicate N 0) from ⟨List.length_replicate, fun z hz => by rw [List.eq_of_mem_replicate hz]; decide⟩)
    have a1 := (HA.out.ext hat.ext).c1
    have la := cell_lt a1
    clear hat hne hgg hbl
    cases mi
    · go_wp2_with fail
      clear h1 h2 h3 h4 hmk a1 la
      go_loopw [30] (fun iv wr => ∃ y : Nat, y ≤ m + 1 ∧ iv = .int .i64 (y : Int) ∧ (∃ zs, ArAt n m P false N W0 bx g zs wr ∧ ArBd N zs ∧ ArIs n m false hs zs y 0)) (fun iv _ => m + 1 - (intOf iv).toNat)
      case atStart => exact ⟨0, by omega, rfl, List.replicate N 0, HAT.out, HZ0.out, ArIs.zero⟩
      case round =>
        obtain ⟨y, hy, rfl, zs, hat, hbd, hcv⟩ := hrel
        have HA1 := Lib.hid (HA.out.ext hat.ext)
        have HAT1 := Lib.hid hat
        have HB1 := Lib.hid hbd
        have HC1 := Lib.hid hcv
        clear hat hbd hcv
        by_cases hlt : y < m + 1
        · have hyi : (y : Int) < (m : Int) + 1 := by omega
          have a0 := HA1.out.c0
          have la := cell_lt a0
          go_wp2_with fail
          obtain ⟨wo, rfl⟩ : ∃ wo, wo = wr := ⟨wr, rfl⟩
          clear a0 la
          go_loopw [35] (fun iv wr => ∃ x : Nat, x ≤ n + 1 ∧ iv = .int .i64 (x : Int) ∧ (∃ zs, ArAt n m P false N W0 bx g zs wr ∧ ArBd N zs ∧ ArIs n m false hs zs y x)) (fun iv _ => n + 1 - (intOf iv).toNat)
          case atStart => exact ⟨0, by omega, rfl, zs, HAT1.out, HB1.out, HC1.out⟩
          case round =>
            obtain ⟨x, hx, rfl, zs, hat, hbd, hcv⟩ := hrel
            have HA2 := Lib.hid (HA.out.ext hat.ext)
            have HAT2 := Lib.hid hat
            have HB2 := Lib.hid hbd
            have HC2 := Lib.hid hcv
            by_cases hlx : x < n + 1
            · have hxi : (x : Int) < (n : Int) + 1 := by omega
              have hpl := arPos_lt (n := n) (m := m) (mi := false) (x := x) (y := y) (by omega) (by omega)
              have hql := row_lt (n := n) (m := m) (a := x) (b := y) (by omega) (by omega)
              rw [← HNE.out] at hpl hql
              have hpe : arPos n m false x y = x * (m + 1) + (m - y) := rfl
              have hw1 : IntKind.i64.wrap ((m : Int) - (y : Int)) = ((m - y : Nat) : Int) := by rw [IntWalk.i64_in _ (by omega)]; omega
              have hw1n : IntKind.i64.wrap ((n : Int) - (x : Int)) = ((n - x : Nat) : Int) := by rw [IntWalk.i64_in _ (by omega)]; omega
              have hm1 : y * (n + 1) ≤ 576 := by omega
              have hw2 : IntKind.i64.wrap ((y : Int) * ((n : Int) + 1)) = ((y * (n + 1) : Nat) : Int) := by
                rw [show (y : Int) * ((n : Int) + 1) = ((y * (n + 1) : Nat) : Int) by simp]
                exact IntWalk.i64_in _ (by omega)
              have hm2 : x * (m + 1) ≤ 576 := by
                have := row_lt (n := m) (m := n) (a := 0) (b := x) (by omega) (by omega)
                rw [Nat.mul_comm (m + 1), ← HNE.out] at this
                omega
              have hw3 : IntKind.i64.wrap ((x : Int) * ((m : Int) + 1)) = ((x * (m + 1) : Nat) : Int) := by
                rw [show (x : Int) * ((m : Int) + 1) = ((x * (m + 1) : Nat) : Int) by simp]
                exact IntWalk.i64_in _ (by omega)
              obtain ⟨ba, oa, rfl, hba, g0⟩ := ints_at HR.out (y * (n + 1) + x) (by rw [HN.out]; exact hql)
              replace g0 := (HX0.out.trans hat.ext).cell_some g0
              have lg := cell_lt g0
              have HV := Lib.hid (show hs[y * (n + 1) + x]'(by rw [HN.out]; exact hql) = hA hs (y * (n + 1) + x) by unfold hA; rw [List.getElem?_eq_getElem (by rw [HN.out]; exact hql)]; rfl)
              have HVB := Lib.hid (HBD.out (y * (n + 1) + x))
              rw [HV.out] at g0
              obtain ⟨z, hz⟩ : ∃ z, z = hA hs (y * (n + 1) + x) := ⟨_, rfl⟩
              rw [← hz] at g0 HVB
              obtain ⟨q, hq⟩ : ∃ q, q = y * (n + 1) + x := ⟨_, rfl⟩
              obtain ⟨p, hp⟩ : ∃ p, p = arPos n m false x y := ⟨_, rfl⟩
              have hw4 : IntKind.i64.wrap (((y * (n + 1) : Nat) : Int) + (x : Int)) = (q : Int) := by rw [hq]; exact (IntWalk.i64_in _ (by omega)).trans (by omega)
              have hw5 : IntKind.i64.wrap (((x * (m + 1) : Nat) : Int) + ((m - y : Nat) : Int)) = (p : Int) := by rw [hp, hpe]; rw [hpe] at hpl; exact (IntWalk.i64_in _ (by omega)).trans (by omega)
              rw [← hq] at g0 hql
              rw [← hp] at hpl
              have HCS := Lib.hid (HC2.out.step (by rw [← HNE.out]; exact HB2.out) (by omega) (by omega) hp hz)
              obtain ⟨g', cg, hge, _, hgl, hgc, hgf⟩ := hat.own.slot (j := p) (by rw [hbd.len]; exact hpl)
              simp only [Value.slice.injEq, Option.some.injEq, Addr.mk.injEq] at hge
              obtain ⟨⟨rfl, -⟩, -, -⟩ := hge
              have e0 := hgc 0 _ rfl
              simp only [intK, Nat.mul_one, Nat.add_zero] at e0
              have ef := hgf p
              have a0 := HA2.out.c0
              have a1 := HA2.out.c1
              have a3 := HA2.out.c3
              have la := cell_lt a0
              have k0 := hat.box.c0
              have k3 := hat.box.c3
              have lk := cell_lt k0
              replace k0 : wr.cell? ⟨bx, 0, none⟩ = some (.int .i64 ((m : Nat) + 1 : Int)) := k0
              have hpi : (p : Int) < (N : Int) := by omega
              have hqi : (q : Int) < (N : Int) := by omega
              generalize zs[p]'_ = old at e0
              clear hgc hgf hat hbd hcv hp hz hq hpe hm1 hm2 hba
              generalize y * (n + 1) = yn at *
              generalize x * (m + 1) = xm at *
              go_wp2_with fail
              have y0 := But.cells (D := []) a0 (by simp)
              have y3 := But.cells (D := []) a3 (by simp)
              have z0 := But.cells (D := []) k0 (by simp)
              have z3 := But.cells (D := []) k3 (by simp)
              have zg := But.cells (D := []) g0 (by simp)
              refine (wpIn_wide (n := 3)).1 ?_
              refine wpIn_region_steps [] 19 [(0, true), (1, true), (2, true), (3, true), (4, true), (5, true), (6, true), (7, true), (8, true), (9, true), (10, true), (11, true), (12, true), (13, true), (14, true), (15, true), (16, true), (17, true), (18, true)] (by kernel_rfl) (by kernel_rfl) ?_
              iterate 19 (refine wpSD_q (by rfl) (fun _ _ _ => trivial) (fun K hK => ?_); go_simp; refine hK _ ?_; clear hK K)
              refine wpSD_nil ?_
              intro W8 x8
              have HX8 := Lib.hid x8
              replace ef := x8.frozen e0 ef
              replace e0 := x8.cell_some e0
              have le := cell_lt e0
              clear x8 y0 y3 z0 z3 zg a0 a1 a3 k0 k3 g0 la lk lg
              simp only [List.drop_succ_cons, List.drop_zero]
              gi_wp2
              go_wp2_with fail
              go_roundw
              case rel =>
                have hat := HAT2.out
                have hxx := hat.ext.trans HX8.out
                have hb2 : But [g] wr (W8.setCell ⟨g, p, none⟩ (.int .i64 z)) := ((But.refl [g] wr).ext HX8.out).setCell (by simp) _
                have hne := HBX.out.2.2
                refine ⟨x + 1, by omega, by go_num, zs.set p z, ⟨(hat.own.ext HX8.out).put1N HB2.out.len hpl rfl z (.int .i64 z) rfl, hat.box.but hb2 (by simpa using hne), hat.le, hat.gle, hat.ne, hxx.setCell (p := ⟨g, p, none⟩) hat.gle _⟩, HB2.out.step HVB.out, HCS.out⟩
              case measure => simp [intOf]; omega
            · obtain rfl : x = n + 1 := by omega
              clear hat hbd hcv
              go_wp2_with fail
              go_roundw
              case rel => exact ⟨y + 1, by omega, by go_num, zs, HAT2.out, HB2.out, HC2.out.row⟩
              case measure => simp [intOf]; omega
        · obtain rfl : y = m + 1 := by omega
          have HEN := Lib.hid (HC1.out.end_ (by rw [← HNE.out]; exact HB1.out))
          have k0 := HAT1.out.box.c0
          have k1 := HAT1.out.box.c1
          have k2 := HAT1.out.box.c2
          have k3 := HAT1.out.box.c3
          have lk := cell_lt k0
          have hrb := HRB.out.ext HAT1.out.ext
          have HRX := Lib.hid hrb
          have r0 := hrb.c0
          have r1 := hrb.c1
          have r2 := hrb.c2
          have r3 := hrb.c3
          have f0 := hrb.f0
          have f1 := hrb.f1
          have f2 := hrb.f2
          have f3 := hrb.f3
          have lr := cell_lt r0
          clear hrb
          go_wp2_with fail
          have hp := HRX.out.put (.int .i64 ((turnN n m false : Nat) + 1 : Int)) (.int .i64 ((turnM n m false : Nat) + 1 : Int)) (.int .i64 P) (.slice (some ⟨g, 0, none⟩) N N)
          have hwb : w.heap.size ≤ w.heap.size + 1 := by omega
          have hx := (HX0.out.trans HAT1.out.ext)
          have hx4 : Ext w ((((wr.setCell ⟨w.heap.size + 1, 0, none⟩ (.int .i64 ((turnN n m false : Nat) + 1 : Int))).setCell ⟨w.heap.size + 1, 1, none⟩ (.int .i64 ((turnM n m false : Nat) + 1 : Int))).setCell ⟨w.heap.size + 1, 2, none⟩ (.int .i64 P)).setCell ⟨w.heap.size + 1, 3, none⟩ (.slice (some ⟨g, 0, none⟩) N N)) :=
            (((hx.setCell (p := ⟨w.heap.size + 1, 0, none⟩) hwb _).setCell (p := ⟨w.heap.size + 1, 1, none⟩) hwb _).setCell (p := ⟨w.heap.size + 1, 2, none⟩) hwb _).setCell (p := ⟨w.heap.size + 1, 3, none⟩) hwb _
          have hl := cell_lt HRB.out.c0
          have ho := HAT1.out.own.kept (grown_put4 wr (w.heap.size + 1) (.int .i64 ((turnN n m false : Nat) + 1 : Int)) (.int .i64 ((turnM n m false : Nat) + 1 : Int)) (.int .i64 P) (.slice (some ⟨g, 0, none⟩) N N)) (.inr (by have := HBX.out.2.1; simp [Value.ownBlock]; omega))
          have HO := Lib.hid (ho.mono HX0.out.bel.size)
          have HX4 := Lib.hid hx4
          clear hx hx4 ho hwb hl r0 r1 r2 r3 f0 f1 f2 f3 k0 k1 k2 k3 lk lr
          generalize ((((wr.setCell ⟨w.heap.size + 1, 0, none⟩ (.int .i64 ((turnN n m false : Nat) + 1 : Int))).setCell ⟨w.heap.size + 1, 1, none⟩ (.int .i64 ((turnM n m false : Nat) + 1 : Int))).setCell ⟨w.heap.size + 1, 2, none⟩ (.int .i64 P)).setCell ⟨w.heap.size + 1, 3, none⟩ (.slice (some ⟨g, 0, none⟩) N N)) = WF at *
          have q0 := hp.c0
          have q1 := hp.c1
          have q2 := hp.c2
          have q3 := hp.c3
          refine bodyPost_ret (v := surfV ((turnN n m false : Nat) + 1 : Int) ((turnM n m false : Nat) + 1 : Int) P (.slice (some ⟨g, 0, none⟩) N N)) (by simp [results, Try.results57, go_sem, q0, q1, q2, q3]) rfl ?_
          exact ⟨_, zs, rfl, HO.out, HEN.out, HX4.out⟩
    · have a0 := (HA.out.ext HAT.out.ext).c0
      have k0 := HAT.out.box.c0
      have k1 := HAT.out.box.c1
      have f0 := HAT.out.box.f0
      have f1 := HAT.out.box.f1
      have lk := cell_lt k0
      go_wp2_with fail
      refine (wpIn_wide (n := 3)).1 ?_
      have hwl : w.heap.size < W0.heap.size := cell_lt HA.out.c0
      refine wpIn_region_tree (B := W0.heap.size) 7 [0, 1, 2, 3, 4] HAT.out.ext.bel.size (by kernel_rfl) (by decide +kernel) ?_
      repeat (refine wpQ_step (by rfl) (fun _ _ _ => trivial) (fun K hK => ?_); go_simp; refine hK _ ?_; clear hK K)
      refine wpQ_nil ?_
      change wpAnyT _ _ _ _ _ _ _ _ _ (1 + 1) _ _ _
      refine wpAnyT_step [5] (by decide +kernel) (by decide) (by decide) ?_
      intro i hi
      simp only [List.mem_cons, List.not_mem_nil, or_false] at hi
      subst hi
      refine ⟨_, by rfl, midT_step (by rfl) (fun _ _ _ => trivial) (fun δ K' hK' => ?_)⟩
      have E1 := Lib.hid (show Ext W1 δ.wd from ⟨δ, rfl⟩)
      replace f0 := E1.out.frozen k0 f0
      replace f1 := E1.out.frozen k1 f1
      replace k0 := E1.out.cell_some k0
      replace k1 := E1.out.cell_some k1
      replace lk := cell_lt k0
      go_simp
      refine ⟨(Below.refl _ _).setCell (p := ⟨bx, 0, none⟩) HAT.out.le _, hK' _ _ ?_⟩
      clear hK' K'
      refine wpAnyT_step [6] (by decide +kernel) (by decide) (by decide) ?_
      intro i hi
      simp only [List.mem_cons, List.not_mem_nil, or_false] at hi
      subst hi
      refine ⟨_, by rfl, midT_step (by rfl) (fun _ _ _ => trivial) (fun δ2 K' hK' => ?_)⟩
      have E2 := Lib.hid (show Ext (δ.wd.setCell ⟨bx, 0, none⟩ (.int .i64 ((n : Int) + 1))) δ2.wd from ⟨δ2, rfl⟩)
      go_simp
      refine ⟨Below.refl _ _, hK' _ _ ?_⟩
      clear hK' K'
      refine ⟨by decide +kernel, fun w6 x6' => ?_⟩
      have HX6 := Lib.hid (E2.out.trans x6')
      clear x6'
      replace f1 := HX6.out.frozen ((cell_set_other (.inr (by simp))).trans k1) ((World.frozen?_setCell ..).trans f1)
      replace k1 := HX6.out.cell_some ((cell_set_other (.inr (by simp))).trans k1)
      replace lk := cell_lt k1
      clear f0 k0 a0 a1 la hwl
      simp only [List.drop_succ_cons, List.drop_zero]
      gi_wp2
      have HBE := Lib.hid (HAT.out.box.ext E1.out)
      refine lay_wp (fun W => ArAt n m P true N W0 bx g (List.replicate N 0) W) ⟨?_, ?_, HAT.out.le, HAT.out.gle, HAT.out.ne, ?_⟩ ?_
      · exact ((((HAT.out.own.ext E1.out).kept (grown_set _ bx 0 _) (.inr (by have := HAT.out.ne; simpa [Value.ownBlock] using fun e => this e.symm))).ext HX6.out)).kept (grown_set _ bx 1 _) (.inr (by have := HAT.out.ne; simpa [Value.ownBlock] using fun e => this e.symm))
      · exact ((HBE.out.put0 _).ext HX6.out).put1 _
      · exact (((HAT.out.ext.trans E1.out).setCell (p := ⟨bx, 0, none⟩) HAT.out.le _).trans HX6.out).setCell (p := ⟨bx, 1, none⟩) HAT.out.le _
      clear k1 f1 lk HBE
      rintro W3 hat
      have HATM := Lib.hid hat
      have a1 := (HA.out.ext hat.ext).c1
      have la := cell_lt a1
      clear hat HAT
      go_wp2_with fail
      clear h1 h2 h3 h4 hmk a1 la
      go_loopw [30] (fun iv wr => ∃ y : Nat, y ≤ m + 1 ∧ iv = .int .i64 (y : Int) ∧ (∃ zs, ArAt n m P true N W0 bx g zs wr ∧ ArBd N zs ∧ ArIs n m true hs zs y 0)) (fun iv _ => m + 1 - (intOf iv).toNat)
      case atStart => exact ⟨0, by omega, rfl, List.replicate N 0, HATM.out, HZ0.out, ArIs.zero⟩
      case round =>
        obtain ⟨y, hy, rfl, zs, hat, hbd, hcv⟩ := hrel
        have HA1 := Lib.hid (HA.out.ext hat.ext)
        have HAT1 := Lib.hid hat
        have HB1 := Lib.hid hbd
        have HC1 := Lib.hid hcv
        clear hat hbd hcv
        by_cases hlt : y < m + 1
        · have hyi : (y : Int) < (m : Int) + 1 := by omega
          have a0 := HA1.out.c0
          have la := cell_lt a0
          go_wp2_with fail
          obtain ⟨wo, rfl⟩ : ∃ wo, wo = wr := ⟨wr, rfl⟩
          clear a0 la
          go_loopw [35] (fun iv wr => ∃ x : Nat, x ≤ n + 1 ∧ iv = .int .i64 (x : Int) ∧ (∃ zs, ArAt n m P true N W0 bx g zs wr ∧ ArBd N zs ∧ ArIs n m true hs zs y x)) (fun iv _ => n + 1 - (intOf iv).toNat)
          case atStart => exact ⟨0, by omega, rfl, zs, HAT1.out, HB1.out, HC1.out⟩
          case round =>
            obtain ⟨x, hx, rfl, zs, hat, hbd, hcv⟩ := hrel
            have HA2 := Lib.hid (HA.out.ext hat.ext)
            have HAT2 := Lib.hid hat
            have HB2 := Lib.hid hbd
            have HC2 := Lib.hid hcv
            by_cases hlx : x < n + 1
            · have hxi : (x : Int) < (n : Int) + 1 := by omega
              have hpl := arPos_lt (n := n) (m := m) (mi := true) (x := x) (y := y) (by omega) (by omega)
              have hql := row_lt (n := n) (m := m) (a := x) (b := y) (by omega) (by omega)
              rw [← HNE.out] at hpl hql
              have hpe : arPos n m true x y = y * (n + 1) + (n - x) := rfl
              have hw1 : IntKind.i64.wrap ((m : Int) - (y : Int)) = ((m - y : Nat) : Int) := by rw [IntWalk.i64_in _ (by omega)]; omega
              have hw1n : IntKind.i64.wrap ((n : Int) - (x : Int)) = ((n - x : Nat) : Int) := by rw [IntWalk.i64_in _ (by omega)]; omega
              have hm1 : y * (n + 1) ≤ 576 := by omega
              have hw2 : IntKind.i64.wrap ((y : Int) * ((n : Int) + 1)) = ((y * (n + 1) : Nat) : Int) := by
                rw [show (y : Int) * ((n : Int) + 1) = ((y * (n + 1) : Nat) : Int) by simp]
                exact IntWalk.i64_in _ (by omega)
              have hm2 : x * (m + 1) ≤ 576 := by
                have := row_lt (n := m) (m := n) (a := 0) (b := x) (by omega) (by omega)
                rw [Nat.mul_comm (m + 1), ← HNE.out] at this
                omega
              have hw3 : IntKind.i64.wrap ((x : Int) * ((m : Int) + 1)) = ((x * (m + 1) : Nat) : Int) := by
                rw [show (x : Int) * ((m : Int) + 1) = ((x * (m + 1) : Nat) : Int) by simp]
                exact IntWalk.i64_in _ (by omega)
              obtain ⟨ba, oa, rfl, hba, g0⟩ := ints_at HR.out (y * (n + 1) + x) (by rw [HN.out]; exact hql)
              replace g0 := (HX0.out.trans hat.ext).cell_some g0
              have lg := cell_lt g0
              have HV := Lib.hid (show hs[y * (n + 1) + x]'(by rw [HN.out]; exact hql) = hA hs (y * (n + 1) + x) by unfold hA; rw [List.getElem?_eq_getElem (by rw [HN.out]; exact hql)]; rfl)
              have HVB := Lib.hid (HBD.out (y * (n + 1) + x))
              rw [HV.out] at g0
              obtain ⟨z, hz⟩ : ∃ z, z = hA hs (y * (n + 1) + x) := ⟨_, rfl⟩
              rw [← hz] at g0 HVB
              obtain ⟨q, hq⟩ : ∃ q, q = y * (n + 1) + x := ⟨_, rfl⟩
              obtain ⟨p, hp⟩ : ∃ p, p = arPos n m true x y := ⟨_, rfl⟩
              have hw4 : IntKind.i64.wrap (((y * (n + 1) : Nat) : Int) + (x : Int)) = (q : Int) := by rw [hq]; exact (IntWalk.i64_in _ (by omega)).trans (by omega)
              have hw5 : IntKind.i64.wrap (((y * (n + 1) : Nat) : Int) + ((n - x : Nat) : Int)) = (p : Int) := by rw [hp, hpe]; rw [hpe] at hpl; exact (IntWalk.i64_in _ (by omega)).trans (by omega)
              rw [← hq] at g0 hql
              rw [← hp] at hpl
              have HCS := Lib.hid (HC2.out.step (by rw [← HNE.out]; exact HB2.out) (by omega) (by omega) hp hz)
              obtain ⟨g', cg, hge, _, hgl, hgc, hgf⟩ := hat.own.slot (j := p) (by rw [hbd.len]; exact hpl)
              simp only [Value.slice.injEq, Option.some.injEq, Addr.mk.injEq] at hge
              obtain ⟨⟨rfl, -⟩, -, -⟩ := hge
              have e0 := hgc 0 _ rfl
              simp only [intK, Nat.mul_one, Nat.add_zero] at e0
              have ef := hgf p
              have a0 := HA2.out.c0
              have a1 := HA2.out.c1
              have a3 := HA2.out.c3
              have la := cell_lt a0
              have k0 := hat.box.c0
              have k3 := hat.box.c3
              have lk := cell_lt k0
              replace k0 : wr.cell? ⟨bx, 0, none⟩ = some (.int .i64 ((n : Nat) + 1 : Int)) := k0
              have hpi : (p : Int) < (N : Int) := by omega
              have hqi : (q : Int) < (N : Int) := by omega
              generalize zs[p]'_ = old at e0
              clear hgc hgf hat hbd hcv hp hz hq hpe hm1 hm2 hba
              generalize y * (n + 1) = yn at *
              generalize x * (m + 1) = xm at *
              go_wp2_with fail
              have y0 := But.cells (D := []) a0 (by simp)
              have y3 := But.cells (D := []) a3 (by simp)
              have z0 := But.cells (D := []) k0 (by simp)
              have z3 := But.cells (D := []) k3 (by simp)
              have zg := But.cells (D := []) g0 (by simp)
              refine (wpIn_wide (n := 3)).1 ?_
              refine wpIn_region_steps [] 19 [(0, true), (1, true), (2, true), (3, true), (4, true), (5, true), (6, true), (7, true), (8, true), (9, true), (10, true), (11, true), (12, true), (13, true), (14, true), (15, true), (16, true), (17, true), (18, true)] (by kernel_rfl) (by kernel_rfl) ?_
              iterate 19 (refine wpSD_q (by rfl) (fun _ _ _ => trivial) (fun K hK => ?_); go_simp; refine hK _ ?_; clear hK K)
              refine wpSD_nil ?_
              intro W8 x8
              have HX8 := Lib.hid x8
              replace ef := x8.frozen e0 ef
              replace e0 := x8.cell_some e0
              have le := cell_lt e0
              clear x8 y0 y3 z0 z3 zg a0 a1 a3 k0 k3 g0 la lk lg
              simp only [List.drop_succ_cons, List.drop_zero]
              gi_wp2
              go_wp2_with fail
              go_roundw
              case rel =>
                have hat := HAT2.out
                have hxx := hat.ext.trans HX8.out
                have hb2 : But [g] wr (W8.setCell ⟨g, p, none⟩ (.int .i64 z)) := ((But.refl [g] wr).ext HX8.out).setCell (by simp) _
                have hne := HBX.out.2.2
                refine ⟨x + 1, by omega, by go_num, zs.set p z, ⟨(hat.own.ext HX8.out).put1N HB2.out.len hpl rfl z (.int .i64 z) rfl, hat.box.but hb2 (by simpa using hne), hat.le, hat.gle, hat.ne, hxx.setCell (p := ⟨g, p, none⟩) hat.gle _⟩, HB2.out.step HVB.out, HCS.out⟩
              case measure => simp [intOf]; omega
            · obtain rfl : x = n + 1 := by omega
              clear hat hbd hcv
              go_wp2_with fail
              go_roundw
              case rel => exact ⟨y + 1, by omega, by go_num, zs, HAT2.out, HB2.out, HC2.out.row⟩
              case measure => simp [intOf]; omega
        · obtain rfl : y = m + 1 := by omega
          have HEN := Lib.hid (HC1.out.end_ (by rw [← HNE.out]; exact HB1.out))
          have k0 := HAT1.out.box.c0
          have k1 := HAT1.out.box.c1
          have k2 := HAT1.out.box.c2
          have k3 := HAT1.out.box.c3
          have lk := cell_lt k0
          have hrb := HRB.out.ext HAT1.out.ext
          have HRX := Lib.hid hrb
          have r0 := hrb.c0
          have r1 := hrb.c1
          have r2 := hrb.c2
          have r3 := hrb.c3
          have f0 := hrb.f0
          have f1 := hrb.f1
          have f2 := hrb.f2
          have f3 := hrb.f3
          have lr := cell_lt r0
          clear hrb
          go_wp2_with fail
          have hp := HRX.out.put (.int .i64 ((turnN n m true : Nat) + 1 : Int)) (.int .i64 ((turnM n m true : Nat) + 1 : Int)) (.int .i64 P) (.slice (some ⟨g, 0, none⟩) N N)
          have hwb : w.heap.size ≤ w.heap.size + 1 := by omega
          have hx := (HX0.out.trans HAT1.out.ext)
          have hx4 : Ext w ((((wr.setCell ⟨w.heap.size + 1, 0, none⟩ (.int .i64 ((turnN n m true : Nat) + 1 : Int))).setCell ⟨w.heap.size + 1, 1, none⟩ (.int .i64 ((turnM n m true : Nat) + 1 : Int))).setCell ⟨w.heap.size + 1, 2, none⟩ (.int .i64 P)).setCell ⟨w.heap.size + 1, 3, none⟩ (.slice (some ⟨g, 0, none⟩) N N)) :=
            (((hx.setCell (p := ⟨w.heap.size + 1, 0, none⟩) hwb _).setCell (p := ⟨w.heap.size + 1, 1, none⟩) hwb _).setCell (p := ⟨w.heap.size + 1, 2, none⟩) hwb _).setCell (p := ⟨w.heap.size + 1, 3, none⟩) hwb _
          have hl := cell_lt HRB.out.c0
          have ho := HAT1.out.own.kept (grown_put4 wr (w.heap.size + 1) (.int .i64 ((turnN n m true : Nat) + 1 : Int)) (.int .i64 ((turnM n m true : Nat) + 1 : Int)) (.int .i64 P) (.slice (some ⟨g, 0, none⟩) N N)) (.inr (by have := HBX.out.2.1; simp [Value.ownBlock]; omega))
          have HO := Lib.hid (ho.mono HX0.out.bel.size)
          have HX4 := Lib.hid hx4
          clear hx hx4 ho hwb hl r0 r1 r2 r3 f0 f1 f2 f3 k0 k1 k2 k3 lk lr
          generalize ((((wr.setCell ⟨w.heap.size + 1, 0, none⟩ (.int .i64 ((turnN n m true : Nat) + 1 : Int))).setCell ⟨w.heap.size + 1, 1, none⟩ (.int .i64 ((turnM n m true : Nat) + 1 : Int))).setCell ⟨w.heap.size + 1, 2, none⟩ (.int .i64 P)).setCell ⟨w.heap.size + 1, 3, none⟩ (.slice (some ⟨g, 0, none⟩) N N)) = WF at *
          have q0 := hp.c0
          have q1 := hp.c1
          have q2 := hp.c2
          have q3 := hp.c3
          refine bodyPost_ret (v := surfV ((turnN n m true : Nat) + 1 : Int) ((turnM n m true : Nat) + 1 : Int) P (.slice (some ⟨g, 0, none⟩) N N)) (by simp [results, Try.results57, go_sem, q0, q1, q2, q3]) rfl ?_
          exact ⟨_, zs, rfl, HO.out, HEN.out, HX4.out⟩
end Go.Proofs.Ytlljhimaopnbfaa
