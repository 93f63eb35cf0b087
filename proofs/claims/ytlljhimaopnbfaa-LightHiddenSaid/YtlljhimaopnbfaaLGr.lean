/- light.Compare lays blocks and does nothing else to a world. No condition. -/
import Derived.Test.YtlljhimaopnbfaaLTools
import Derived.Sort.Grow
import Derived.Deep.Draws
namespace Go.Proofs.Ytlljhimaopnbfaa
open Go.RowKit Go.Sort

/-- A world with some draws more, and some blocks behind. -/
def GR (w w' : World) : Prop := ∃ q os, w' = grow (w.drewN q) os
theorem GR.refl (w : World) : GR w w := ⟨0, #[], by rw [grow_empty]; rfl⟩
theorem GR.alloc {w W : World} (h : GR w W) (o : Obj) : GR w (W.alloc o) := by
  obtain ⟨q, os, rfl⟩ := h
  exact ⟨q, os ++ #[o], by rw [alloc_eq_grow, grow_grow]⟩
theorem GR.trans {a b c : World} (h : GR a b) (k : GR b c) : GR a c := by
  obtain ⟨q, os, rfl⟩ := h
  obtain ⟨r, os', rfl⟩ := k
  refine ⟨q + r, os ++ os', ?_⟩
  rw [← grow_grow]
  show grow (grow ((a.drewN q).drewN r) os) os' = _
  rw [World.drewN_drewN]
theorem GR.ext {w w' : World} (h : GR w w') : Ext w w' := by
  obtain ⟨q, os, rfl⟩ := h
  exact .of ⟨rfl, rfl, rfl, by simp, fun k hk => by
    show (w.heap ++ os)[k]? = w.heap[k]?
    rw [Array.getElem?_append_left hk]⟩

theorem lfrom_gr (b : Nat) (x lo hi : Int) (c : Nat) (w : World) (h : w.cell? ⟨b, 0, none⟩ = some (.int .i64 x)) :
    Calls Try.prog 64 #[.int .i64 lo, .int .i64 hi, .slice (some ⟨b, 0, none⟩) 1 c] w fun e w' => e = .returned (.bool (inB lo hi x)) ∧ GR w w' := by
  have hz := rowI_one h
  have hz2 := hz.below (((Below.refl w.heap.size w).alloc (Nat.le_refl _) (.cells #[.int .i64 lo] 3)).alloc (by simp) (.cells #[.int .i64 hi] 3))
  have H := Lib.hid (fun p q => lcontainsFrom_any _ 1 c [x] lo hi ⟨w.heap.size, 0, none⟩ ⟨w.heap.size + 1, 0, none⟩ _ p q hz2)
  have HA := Lib.hid (show allB lo hi [x] = inB lo hi x by simp [allB])
  clear hz hz2
  go_enter Try.func64, Try.ntmps64
  go_wp2_with (go_at_call 105; refine (H.out (by go_simp) (by go_simp)).mono ?_; rintro e w' ⟨rfl, rfl⟩)
  go_ret
  exact ⟨by rw [← HA.out]; simp, ((GR.refl _).alloc _).alloc _⟩

set_option maxHeartbeats 1000000 in
theorem shaped_gr (n d : Int) (w : World) :
    Calls Try.prog 70 #[shadeV n d] w fun e w' => e = .returned (.bool (shapedB n d)) ∧ GR w w' := by
  cases h1 : inB 1 1000000000 d
  · have HV := Lib.hid (show shapedB n d = false by simp [shapedB, h1])
    go_enter Try.func70, Try.ntmps70
    go_wp2_with fail
    refine (lfrom_gr _ d _ _ _ _ (by go_cell)).mono ?_
    rintro e w1 ⟨rfl, g1⟩
    rw [h1]
    have HG := Lib.hid g1
    clear g1 h1
    go_wp2_with fail
    go_ret
    exact ⟨ret_b HV.out.symm, GR.trans (((GR.refl _).alloc _).alloc _) HG.out⟩
  · have HV := Lib.hid (show shapedB n d = inB 0 d n by simp [shapedB, h1])
    go_enter Try.func70, Try.ntmps70
    go_wp2_with fail
    refine (lfrom_gr _ d _ _ _ _ (by go_cell)).mono ?_
    rintro e w1 ⟨rfl, g1⟩
    rw [h1]
    have HG := Lib.hid (GR.trans (((GR.refl w).alloc _).alloc _) g1)
    have c0 : w1.cell? ⟨w.heap.size, 0, none⟩ = some (.int .i64 n) := g1.ext.cell_some (by go_cell)
    have c1 : w1.cell? ⟨w.heap.size, 1, none⟩ = some (.int .i64 d) := g1.ext.cell_some (by go_cell)
    have l0 := cell_lt c0
    clear g1 h1
    go_wp2_with fail
    refine (lfrom_gr _ n _ _ _ _ (by go_cell)).mono ?_
    rintro e w2 ⟨rfl, g2⟩
    have HG2 := Lib.hid (HG.out.trans (GR.trans ((GR.refl _).alloc _) g2))
    clear g2 c0 c1 l0
    generalize inB 0 d n = bb at *
    go_wp2_with fail
    go_ret
    exact ⟨ret_b HV.out.symm, HG2.out⟩

set_option maxHeartbeats 1000000 in
theorem compare_gr (an ad bn bd : Int) (w : World) :
    Calls Try.prog 23 #[shadeV an ad, shadeV bn bd] w fun e w' => e = .returned (.int .i64 (compareOf an ad bn bd)) ∧ GR w w' := by
  have HB1 := Lib.hid (show GR w ((w.alloc (.cells #[.int .i64 an, .int .i64 ad] 27)).alloc (.cells #[.int .i64 bn, .int .i64 bd] 27)) from ((GR.refl w).alloc _).alloc _)
  have HS1 := Lib.hid fun W : World => shaped_gr an ad W
  have HS2 := Lib.hid fun W : World => shaped_gr bn bd W
  cases h1 : shapedB an ad
  · have HT := Lib.hid (show compareOf an ad bn bd = 0 by simp [compareOf, h1])
    rw [h1] at HS1
    clear h1
    go_enter Try.func23, Try.ntmps23
    go_wp2_with fail
    refine (HS1.out _).mono ?_
    rintro e w1 ⟨rfl, g1⟩
    have HG := Lib.hid (HB1.out.trans g1)
    clear g1
    go_wp2_with fail
    go_ret
    exact ⟨by rw [HT.out]; rfl, HG.out⟩
  cases h2 : shapedB bn bd
  · have HT := Lib.hid (show compareOf an ad bn bd = 0 by simp [compareOf, h2])
    rw [h1] at HS1
    rw [h2] at HS2
    clear h1 h2
    go_enter Try.func23, Try.ntmps23
    go_wp2_with fail
    refine (HS1.out _).mono ?_
    rintro e w1 ⟨rfl, g1⟩
    have HG := Lib.hid (HB1.out.trans g1)
    have c0 : w1.cell? ⟨w.heap.size + 1, 0, none⟩ = some (.int .i64 bn) := g1.ext.cell_some (by go_cell)
    have c1 : w1.cell? ⟨w.heap.size + 1, 1, none⟩ = some (.int .i64 bd) := g1.ext.cell_some (by go_cell)
    have l0 := cell_lt c0
    clear g1
    go_wp2_with fail
    refine (HS2.out _).mono ?_
    rintro e w2 ⟨rfl, g2⟩
    have HG2 := Lib.hid (HG.out.trans g2)
    clear g2 c0 c1 l0
    go_wp2_with fail
    go_ret
    exact ⟨by rw [HT.out]; rfl, HG2.out⟩
  have HT := Lib.hid (show compareOf an ad bn bd = _ by rw [compareOf, h1, h2, Bool.and_true, if_pos rfl])
  obtain ⟨⟨ha1, ha2⟩, ha3, ha4⟩ := shapedB_iff.1 h1
  obtain ⟨⟨hb1, hb2⟩, hb3, hb4⟩ := shapedB_iff.1 h2
  obtain ⟨hm1, hm2⟩ := mul_bd ha3 (Int.le_trans ha4 ha2) (by omega : 0 ≤ bd) hb2
  obtain ⟨hm3, hm4⟩ := mul_bd hb3 (Int.le_trans hb4 hb2) (by omega : 0 ≤ ad) ha2
  rw [h1] at HS1
  rw [h2] at HS2
  clear h1 h2
  go_enter Try.func23, Try.ntmps23
  go_wp2_with fail
  refine (HS1.out _).mono ?_
  rintro e w1 ⟨rfl, g1⟩
  have HG := Lib.hid (HB1.out.trans g1)
  have c0 : w1.cell? ⟨w.heap.size + 1, 0, none⟩ = some (.int .i64 bn) := g1.ext.cell_some (by go_cell)
  have c1 : w1.cell? ⟨w.heap.size + 1, 1, none⟩ = some (.int .i64 bd) := g1.ext.cell_some (by go_cell)
  have d0 : w1.cell? ⟨w.heap.size, 0, none⟩ = some (.int .i64 an) := g1.ext.cell_some (by go_cell)
  have d1 : w1.cell? ⟨w.heap.size, 1, none⟩ = some (.int .i64 ad) := g1.ext.cell_some (by go_cell)
  have l0 := cell_lt c0
  clear g1
  go_wp2_with fail
  refine (HS2.out _).mono ?_
  rintro e w2 ⟨rfl, g2⟩
  have HG2 := Lib.hid (HG.out.trans g2)
  replace c0 := g2.ext.cell_some c0
  replace c1 := g2.ext.cell_some c1
  replace d0 := g2.ext.cell_some d0
  replace d1 := g2.ext.cell_some d1
  replace l0 := cell_lt c0
  clear g2
  go_wp2_with fail
  all_goals go_ret
  all_goals refine ⟨ret_i ?_, HG2.out⟩
  all_goals
    rw [HT.out]
    generalize an * bd = x at *
    generalize bn * ad = y at *
    (repeat' split) <;> omega
end Go.Proofs.Ytlljhimaopnbfaa
