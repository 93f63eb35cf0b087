/- slices.Grow, Concat of two, Reverse; rosette.turned and mirrored. Condition: slices read as lists. -/
import Derived.Test.YtkjgcmdabelohaaRTurn
import Derived.Test.YtkjgcmdabelohaaRSame
import Derived.Lib.AppendZerosOnto
import Derived.Lib.Walk
import Derived.Lib.SliceRun
import Derived.Deep.LoopGhost
import Derived.Sort.WalkB12
import Derived.Lib.SlicesMore
import Derived.Lib.RowBridge
import Derived.BigRegion
import Derived.LoopN
namespace Go.Proofs.Ytkjgcmdabelohaa
open Go.RowKit Go.Lib Go.Sort

set_option maxRecDepth 100000 in
set_option maxHeartbeats 1000000 in
theorem grow_any (n : Nat) (w : World) (hn : 1 ≤ n) (hn2 : n ≤ 1000000) :
    Calls Try.prog 124 #[.slice none 0 0, .int .i64 n] w (RetO w []) := by
  obtain ⟨i0, hi, hz0, hz1, hz2⟩ := info_parts intInfo
  have hold : (Builtin.firstCells i0.size 0 (.slice none 0 0)).run Try.prog w.drew = .ok ([] : List Value).toArray w.drew := run_firstCells_none w.drew i0.size 0 0 0
  have hrz : ∀ ty, (Builtin.append_ #[22, 3] ty #[.slice none 0 0, .int .i64 (n : Int)]).run Try.prog w =
      .ok (.slice (some ⟨w.heap.size, 0, none⟩) n (grownCap w n 0 3)) (w.drew.alloc (.cells (([] : List Value).toArray ++ Builtin.zeroCells (Value.int .i64 0).cells n ++ Builtin.zeroCells (Value.int .i64 0).cells (grownCap w n 0 3 - n)) 3)) := fun ty => by
    have h := Lib.run_append_grow_zeros w 22 3 ty 3 i0 (.int .i64 0) .i64 .i64 Try.underlying22 Try.underlying3 hi hz0 none 0 0 [] hold n (by omega) (by omega) (by omega) (by omega) (by rw [hz2]; omega) (by rw [Nat.zero_add]; exact growslice_fits (by omega) (by rw [hz2]; omega))
    rw [Nat.zero_add] at h
    exact h
  have hGn : n ≤ grownCap w n 0 3 := grownCap_ge w _ _ _
  obtain ⟨G, hG⟩ : ∃ G, G = grownCap w n 0 3 := ⟨_, rfl⟩
  rw [← hG] at hrz hGn
  have hGm : G ≤ maxLen := by
    have := grownCap_le_maxLen w n 0 3 (by unfold maxLen; omega)
    rwa [← hG] at this
  have hG63 : G ≤ 9223372036854775807 := by
    unfold maxLen at hGm
    omega
  have HGm := Lib.hid hGm
  have HGn := Lib.hid hGn
  clear hold hG
  go_enter Try.func124, Try.ntmps124
  go_wp2_with (at_builtin; refine Lib.wpList_append_run _ rfl _ _ _ _ rfl _ _ rfl rfl _ _ (hrz _) ?_)
  all_goals go_ret
  all_goals refine ⟨_, rfl, OwnI.made w.heap.size w.drew G (Nat.le_refl _) _ HGm.out ?_, ((Ext.refl w).drew).alloc _⟩
  all_goals
    have := HGn.out
    simp [size_zeroCells]
    omega

theorem OwnI.lt {B : Nat} {w : World} {v : Value} {zs : List Int} (h : OwnI B w v zs) : ∀ k, v.ownBlock = some k → B ≤ k ∧ k < w.heap.size := World.ownsRow.lt h

set_option maxRecDepth 100000 in
set_option maxHeartbeats 1000000 in
theorem concat_any (b c : Nat) (u v : Value) (xs ys : List Int) (w : World) (h0 : w.cell? ⟨b, 0, none⟩ = some u) (h1 : w.cell? ⟨b, 1, none⟩ = some v) (hu : IsI w u xs) (hv : IsI w v ys)
    (hn : 1 ≤ xs.length + ys.length) (hx : xs.length ≤ 1000) (hy : ys.length ≤ 1000) :
    Calls Try.prog 107 #[.slice (some ⟨b, 0, none⟩) 2 c] w (RetO w (xs ++ ys)) := by
  have HU := Lib.hid hu
  have HV := Lib.hid hv
  obtain ⟨A, n, ca, rfl, hc0, hr, hn1⟩ := hu.open_
  obtain ⟨A', m, cb, rfl, hd0, hs, hm1⟩ := hv.open_
  rw [hr.len, hs.len] at hn
  rw [hr.len] at hx
  rw [hs.len] at hy
  have HL1 := Lib.hid hr.len
  have HL2 := Lib.hid hs.len
  clear hr hs hu hv
  go_enter Try.func107, Try.ntmps107
  go_wp2_with fail
  refine wp_loop_rounds 3 ?_
  rw [rounds_succ]
  go_wp2_with fail
  rw [rounds_succ]
  go_wp2_with fail
  rw [rounds_succ]
  go_wp2_with fail
  have HG := grow_any (n + m) w hn (by omega)
  rw [Int.natCast_add] at HG
  refine HG.mono ?_
  rintro e w1 ⟨v1, rfl, hown, hX⟩
  clear HG
  have h0' := hX.cell_some h0
  have h1' := hX.cell_some h1
  have HO := Lib.hid hown
  have HX := Lib.hid hX
  have HB := Lib.hid HX.out.bel.size
  have HZ1 := Lib.hid (show ([] : List Int).length + xs.length ≤ 10000000000 by rw [HL1.out, List.length_nil]; omega)
  have HZ2 := Lib.hid (show ([] ++ xs : List Int).length + ys.length ≤ 10000000000 by rw [HL2.out, List.nil_append, HL1.out]; omega)
  have HI1 := Lib.hid (HU.out.ext HX.out)
  clear hown hX
  go_wp2_with fail
  refine wp_loop_rounds 3 ?_
  rw [rounds_succ]
  go_wp2_with (at_builtin; refine app_all rfl _ _ rfl rfl rfl HI1.out HO.out HB.out HZ1.out ?_; intro v2 w2 hown2 hb2)
  have HX2 := Lib.hid (HX.out.below hb2 (Nat.le_refl _))
  have HO2 := Lib.hid hown2
  have h0' := HX2.out.cell_some h0
  have h1' := HX2.out.cell_some h1
  have HI2 := Lib.hid (HV.out.ext HX2.out)
  have HB2 := Lib.hid HX2.out.bel.size
  clear hown2 hb2
  rw [rounds_succ]
  go_wp2_with (at_builtin; refine app_all rfl _ _ rfl rfl rfl HI2.out HO2.out HB2.out HZ2.out ?_; intro v2 w2 hown2 hb2)
  have HX3 := Lib.hid (HX2.out.below hb2 (Nat.le_refl _))
  have HO3 := Lib.hid hown2
  clear hown2 hb2
  rw [rounds_succ]
  go_wp2_with fail
  go_ret
  exact ⟨_, rfl, by simpa using HO3.out, HX3.out⟩

theorem own_setCells {B e g cap n : Nat} : ∀ (vs : List Value) (o : Nat) (w : World) (xs : List Value), w.ownsRow B e 1 (.slice (some ⟨g, 0, none⟩) n cap) n xs → o + vs.length = n →
    (w.setCells g o vs).ownsRow B e 1 (.slice (some ⟨g, 0, none⟩) n cap) n (xs.take o ++ vs) ∧ Below B w (w.setCells g o vs)
  | [], o, w, xs, h, hl => by
    have : xs.length = n := by simpa using h.1
    exact ⟨by simpa [World.setCells, List.take_of_length_le (show xs.length ≤ o by simp at hl; omega)] using h, Below.refl _ _⟩
  | v :: r, o, w, xs, h, hl => by
    have hx : xs.length = n := by simpa using h.1
    have hg := (World.ownsRow.lt h g rfl).1
    obtain ⟨h1, _⟩ := World.ownsRow.stored h o v
    obtain ⟨h2, h3⟩ := own_setCells r (o + 1) _ _ h1 (by simp at hl; omega)
    refine ⟨?_, ((Below.refl B w).setCell (p := ⟨g, o, none⟩) hg v).trans h3⟩
    have e : (xs.set o v).take (o + 1) = xs.take o ++ [v] := by
      rw [List.take_succ_eq_append_getElem (by simp at hl ⊢; omega)]
      simp
      exact List.take_set_of_le (Nat.le_refl _)
    rw [e] at h2
    simpa [World.setCells] using h2

end Go.Proofs.Ytkjgcmdabelohaa
