/- slices.Grow, Concat of two, Reverse; rosette.turned and mirrored. Condition: slices read as lists. -/
/- rosette.turned and mirrored. Condition: slices read as lists. -/
/- Turned lists: the plain laws. No program. -/
/- rosette.Turned, Mirrored, matches, Period, Axes, Match and the reference's: what each call computes. Condition: slices read as lists. -/
/- rosette.Period, Axes, Match and the reference's: what each call computes. Condition: slices read as lists. -/
import Derived.Test.YtkjgcmdabelohaaGreatMRub
import Derived.Lib.AppendZerosOnto
import Derived.Lib.Walk
import Derived.Lib.SliceRun
import Derived.Deep.LoopGhost
import Derived.Sort.WalkB12
import Derived.Lib.SlicesMore
import Derived.Lib.RowBridge
import Derived.BigRegion
import Derived.LoopN
namespace Go.Proofs.YtkjgcmdabelohaaGreat
open Go.RowKit Go.Lib Go.Sort

set_option maxRecDepth 100000 in
set_option maxHeartbeats 1000000 in
theorem grow_any (n : Nat) (w : World) (hn : 1 ≤ n) (hn2 : n ≤ 1000000) :
    Calls Tryz.prog 87 #[.slice none 0 0, .int .i64 n] w (RetO w []) := by
  obtain ⟨i0, hi, hz0, hz1, hz2⟩ := info_parts intInfo
  have hold : (Builtin.firstCells i0.size 0 (.slice none 0 0)).run Tryz.prog w.drew = .ok ([] : List Value).toArray w.drew := run_firstCells_none w.drew i0.size 0 0 0
  have hrz : ∀ ty, (Builtin.append_ #[22, 3] ty #[.slice none 0 0, .int .i64 (n : Int)]).run Tryz.prog w =
      .ok (.slice (some ⟨w.heap.size, 0, none⟩) n (grownCap w n 0 3)) (w.drew.alloc (.cells (([] : List Value).toArray ++ Builtin.zeroCells (Value.int .i64 0).cells n ++ Builtin.zeroCells (Value.int .i64 0).cells (grownCap w n 0 3 - n)) 3)) := fun ty => by
    have h := Lib.run_append_grow_zeros w 22 3 ty 3 i0 (.int .i64 0) .i64 .i64 Tryz.underlying22 Tryz.underlying3 hi hz0 none 0 0 [] hold n (by omega) (by omega) (by omega) (by omega) (by rw [hz2]; omega) (by rw [Nat.zero_add]; exact growslice_fits (by omega) (by rw [hz2]; omega))
    rw [Nat.zero_add] at h
    exact h
  have hGn : n ≤ grownCap w n 0 3 := grownCap_ge w _ _ _
  obtain ⟨G, hG⟩ : ∃ G, G = grownCap w n 0 3 := ⟨_, rfl⟩
  rw [← hG] at hrz hGn
  have hGm : G ≤ maxLen := by
    have := grownCap_le_maxLen w n 0 3 (by unfold maxLen; omega)
    rwa [← hG] at this
  have hG63 : G ≤ 9223372036854775807 := by
    unfold maxLen at hGm
    omega
  have HGm := Lib.hid hGm
  have HGn := Lib.hid hGn
  clear hold hG
  go_enter Tryz.func87, Tryz.ntmps87
  go_wp2_with (at_builtin; refine Lib.wpList_append_run _ rfl _ _ _ _ rfl _ _ rfl rfl _ _ (hrz _) ?_)
  all_goals go_ret
  all_goals refine ⟨_, rfl, OwnI.made w.heap.size w.drew G (Nat.le_refl _) _ HGm.out ?_, ((Ext.refl w).drew).alloc _⟩
  all_goals
    have := HGn.out
    simp [size_zeroCells]
    omega

theorem OwnI.lt {B : Nat} {w : World} {v : Value} {zs : List Int} (h : OwnI B w v zs) : ∀ k, v.ownBlock = some k → B ≤ k ∧ k < w.heap.size := World.ownsRow.lt h

set_option maxRecDepth 100000 in
set_option maxHeartbeats 1000000 in
theorem concat_any (b c : Nat) (u v : Value) (xs ys : List Int) (w : World) (h0 : w.cell? ⟨b, 0, none⟩ = some u) (h1 : w.cell? ⟨b, 1, none⟩ = some v) (hu : IsI w u xs) (hv : IsI w v ys)
    (hn : 1 ≤ xs.length + ys.length) (hx : xs.length ≤ 1000) (hy : ys.length ≤ 1000) :
    Calls Tryz.prog 77 #[.slice (some ⟨b, 0, none⟩) 2 c] w (RetO w (xs ++ ys)) := by
  have HU := Lib.hid hu
  have HV := Lib.hid hv
  obtain ⟨A, n, ca, rfl, hc0, hr, hn1⟩ := hu.open_
  obtain ⟨A', m, cb, rfl, hd0, hs, hm1⟩ := hv.open_
  rw [hr.len, hs.len] at hn
  rw [hr.len] at hx
  rw [hs.len] at hy
  have HL1 := Lib.hid hr.len
  have HL2 := Lib.hid hs.len
  clear hr hs hu hv
  go_enter Tryz.func77, Tryz.ntmps77
  go_wp2_with fail
  refine wp_loop_rounds 3 ?_
  rw [rounds_succ]
  go_wp2_with fail
  rw [rounds_succ]
  go_wp2_with fail
  rw [rounds_succ]
  go_wp2_with fail
  have HG := grow_any (n + m) w hn (by omega)
  rw [Int.natCast_add] at HG
  refine HG.mono ?_
  rintro e w1 ⟨v1, rfl, hown, hX⟩
  clear HG
  have h0' := hX.cell_some h0
  have h1' := hX.cell_some h1
  have HO := Lib.hid hown
  have HX := Lib.hid hX
  have HB := Lib.hid HX.out.bel.size
  have HZ1 := Lib.hid (show ([] : List Int).length + xs.length ≤ 10000000000 by rw [HL1.out, List.length_nil]; omega)
  have HZ2 := Lib.hid (show ([] ++ xs : List Int).length + ys.length ≤ 10000000000 by rw [HL2.out, List.nil_append, HL1.out]; omega)
  have HI1 := Lib.hid (HU.out.ext HX.out)
  clear hown hX
  go_wp2_with fail
  refine wp_loop_rounds 3 ?_
  rw [rounds_succ]
  go_wp2_with (at_builtin; refine app_all rfl _ _ rfl rfl rfl HI1.out HO.out HB.out HZ1.out ?_; intro v2 w2 hown2 hb2)
  have HX2 := Lib.hid (HX.out.below hb2 (Nat.le_refl _))
  have HO2 := Lib.hid hown2
  have h0' := HX2.out.cell_some h0
  have h1' := HX2.out.cell_some h1
  have HI2 := Lib.hid (HV.out.ext HX2.out)
  have HB2 := Lib.hid HX2.out.bel.size
  clear hown2 hb2
  rw [rounds_succ]
  go_wp2_with (at_builtin; refine app_all rfl _ _ rfl rfl rfl HI2.out HO2.out HB2.out HZ2.out ?_; intro v2 w2 hown2 hb2)
  have HX3 := Lib.hid (HX2.out.below hb2 (Nat.le_refl _))
  have HO3 := Lib.hid hown2
  clear hown2 hb2
  rw [rounds_succ]
  go_wp2_with fail
  go_ret
  exact ⟨_, rfl, by simpa using HO3.out, HX3.out⟩

theorem own_setCells {B e g cap n : Nat} : ∀ (vs : List Value) (o : Nat) (w : World) (xs : List Value), w.ownsRow B e 1 (.slice (some ⟨g, 0, none⟩) n cap) n xs → o + vs.length = n →
    (w.setCells g o vs).ownsRow B e 1 (.slice (some ⟨g, 0, none⟩) n cap) n (xs.take o ++ vs) ∧ Below B w (w.setCells g o vs)
  | [], o, w, xs, h, hl => by
    have : xs.length = n := by simpa using h.1
    exact ⟨by simpa [World.setCells, List.take_of_length_le (show xs.length ≤ o by simp at hl; omega)] using h, Below.refl _ _⟩
  | v :: r, o, w, xs, h, hl => by
    have hx : xs.length = n := by simpa using h.1
    have hg := (World.ownsRow.lt h g rfl).1
    obtain ⟨h1, _⟩ := World.ownsRow.stored h o v
    obtain ⟨h2, h3⟩ := own_setCells r (o + 1) _ _ h1 (by simp at hl; omega)
    refine ⟨?_, ((Below.refl B w).setCell (p := ⟨g, o, none⟩) hg v).trans h3⟩
    have e : (xs.set o v).take (o + 1) = xs.take o ++ [v] := by
      rw [List.take_succ_eq_append_getElem (by simp at hl ⊢; omega)]
      simp
      exact List.take_set_of_le (Nat.le_refl _)
    rw [e] at h2
    simpa [World.setCells] using h2

end Go.Proofs.YtkjgcmdabelohaaGreat

namespace Go.Proofs.YtkjgcmdabelohaaGreat
open Go.RowKit

theorem isI_drop {w : World} {b o c : Nat} {zs : List Int} (h : IsI w (.slice (some ⟨b, o, none⟩) zs.length c) zs) (k o' : Nat) (ho : k < zs.length → o' = o + k) (hk : k ≤ zs.length) : IsI w (.slice (some ⟨b, o', none⟩) (zs.length - k) (c - k)) (zs.drop k) := by
  obtain ⟨_, _, he, h0, hc, hr⟩ := h
  cases he
  refine ⟨_, _, by rw [List.length_drop], by simp, by rw [List.length_drop]; omega, ⟨rfl, by rw [List.length_drop]; have := hr.max; omega, fun j hj => ?_⟩⟩
  rw [List.length_drop] at hj
  obtain ⟨b', o1, he, hb, hc⟩ := hr.at_ (k + j) (by omega)
  cases he
  refine ⟨b, o', rfl, hb, ?_⟩
  rw [ho (by omega), List.getElem?_drop, show o + k + j = o + (k + j) by omega]
  exact hc
theorem isI_take {w : World} {A : Option Addr} {c n : Nat} {zs : List Int} (h : IsI w (.slice A n c) zs) (k : Nat) (hk : k ≤ n) : IsI w (.slice A k c) (zs.take k) := by
  obtain ⟨_, _, he, h0, hc, hr⟩ := h
  cases he
  have hl : (zs.take k).length = k := by simp; omega
  refine ⟨_, _, by rw [hl], h0, by rw [hl]; omega, ⟨rfl, by rw [hl]; have := hr.max; omega, fun j hj => ?_⟩⟩
  rw [hl] at hj
  obtain ⟨b', o1, he, hb, hc⟩ := hr.at_ j (by omega)
  refine ⟨b', o1, he, hb, ?_⟩
  rw [List.getElem?_take, if_pos hj]
  exact hc

set_option maxRecDepth 100000 in
set_option maxHeartbeats 1000000 in
theorem turned0_any (v : Value) (zs : List Int) (k : Nat) (w : World) (hv : IsI w v zs) (hk : k < zs.length) (hz : zs.length ≤ 1000) :
    Calls Tryz.prog 68 #[v, .int .i64 k] w (RetO w (zs.drop (zs.length - k) ++ zs.take (zs.length - k))) := by
  obtain ⟨A, n, c, rfl, hc0, hr, hn⟩ := hv.open_
  obtain ⟨hca, hcb⟩ := hv.caps
  have HV := Lib.hid hv
  rw [hr.len] at hk hz
  have HL1 := Lib.hid hr.len
  obtain ⟨b, o, rfl, _, _⟩ := hr.at_ 0 (by omega)
  clear hr hv
  by_cases hck : c = n - k
  · obtain rfl : k = 0 := by omega
    obtain rfl : c = n := by omega
    clear hck
    go_enter Tryz.func68, Tryz.ntmps68
    go_wp2_with fail
    refine wp_region_still_tail 12 (by kernel_rfl) (by kernel_rfl) ?_
    simp only [List.take_succ_cons, List.take_zero, List.drop_succ_cons, List.drop_zero]
    repeat (refine wpStill_step (fun K hK => ?_); go_simp; (try go_bits); refine hK _ ?_; clear hK K)
    refine wpStill_nil ?_
    change wpList _ _ _ _ _ w.drew
    go_wp2_with fail
    have hh := HL1.out
    subst hh
    refine lay_calls (fun W => Ext w W ∧ W.cell? ⟨w.heap.size, 0, none⟩ = some (.slice (some ⟨b, o, none⟩) 0 0) ∧ W.cell? ⟨w.heap.size, 1, none⟩ = some (.slice (some ⟨b, o, none⟩) zs.length zs.length)) ⟨by (repeat' (first | with_reducible exact Ext.refl _ | with_reducible apply Ext.alloc | with_reducible apply Ext.drew | with_reducible apply Ext.drewN | with_reducible refine Ext.setCell ?_ ?_ _ | with_reducible apply Ext.step | with_reducible assumption | with_reducible exact Nat.le_refl _ | (simp; done) | (simp; omega))), by go_cell, by go_cell⟩ ?_
    rintro W ⟨hX, h0, h1⟩
    have hu : IsI W (.slice (some ⟨b, o, none⟩) 0 0) (zs.drop zs.length) := by
      have := isI_drop (HV.out.ext hX) zs.length o (by omega) (Nat.le_refl _)
      simpa using this
    have hv : IsI W (.slice (some ⟨b, o, none⟩) zs.length zs.length) (zs.take zs.length) := isI_take (HV.out.ext hX) zs.length (Nat.le_refl _)
    refine (concat_any w.heap.size 2 _ _ _ _ W h0 h1 hu hv (by simp; omega) (by simp) (by simp; omega)).mono ?_
    rintro e w1 ⟨v1, rfl, hown, hx⟩
    have HO := Lib.hid hown
    clear hu hv hown h0 h1
    go_wp2_with fail
    go_ret
    exact ⟨_, rfl, (HO.out.mono hX.bel.size), hX.trans hx⟩
  · have hk1 : k ≤ n := by omega
    have hk2 : (n : Int) - (k : Int) ≤ n := by omega
    have hk4 : (n : Int) - (k : Int) ≤ c := by omega
    go_enter Tryz.func68, Tryz.ntmps68
    go_wp2_with fail
    refine wp_region_still_tail 12 (by kernel_rfl) (by kernel_rfl) ?_
    simp only [List.take_succ_cons, List.take_zero, List.drop_succ_cons, List.drop_zero]
    repeat (refine wpStill_step (fun K hK => ?_); go_simp; (try go_bits); refine hK _ ?_; clear hK K)
    refine wpStill_nil ?_
    change wpList _ _ _ _ _ w.drew
    go_wp2_with fail
    have hh := HL1.out
    subst hh
    refine lay_calls (fun W => Ext w W ∧ W.cell? ⟨w.heap.size, 0, none⟩ = some (.slice (some ⟨b, o + (zs.length - k), none⟩) (zs.length - (zs.length - k)) (c - (zs.length - k))) ∧ W.cell? ⟨w.heap.size, 1, none⟩ = some (.slice (some ⟨b, o, none⟩) (zs.length - k) c)) ⟨by (repeat' (first | with_reducible exact Ext.refl _ | with_reducible apply Ext.alloc | with_reducible apply Ext.drew | with_reducible apply Ext.drewN | with_reducible refine Ext.setCell ?_ ?_ _ | with_reducible apply Ext.step | with_reducible assumption | with_reducible exact Nat.le_refl _ | (simp; done) | (simp; omega))), by go_cell, by go_cell⟩ ?_
    rintro W ⟨hX, h0, h1⟩
    have hu := isI_drop (HV.out.ext hX) (zs.length - k) (o + (zs.length - k)) (fun _ => rfl) (by omega)
    have hv := isI_take (HV.out.ext hX) (zs.length - k) (by omega)
    refine (concat_any w.heap.size 2 _ _ _ _ W h0 h1 hu hv (by simp; omega) (by simp; omega) (by simp; omega)).mono ?_
    rintro e w1 ⟨v1, rfl, hown, hx⟩
    have HO := Lib.hid hown
    clear hu hv hown h0 h1
    go_wp2_with fail
    go_ret
    exact ⟨_, rfl, (HO.out.mono hX.bel.size), hX.trans hx⟩

theorem drop_take_mv {zs : List Int} {k : Nat} (hk : k < zs.length) : zs.drop (zs.length - k) ++ zs.take (zs.length - k) = mvL zs k := by
  refine List.ext_getElem (by simp [mvL, mvTo] <;> omega) fun i h1 h2 => ?_
  simp [mvL, mvTo] at h2
  simp only [mvL, mvTo, List.getElem_map, List.getElem_range]
  rcases Nat.lt_or_ge i k with h | h
  · rw [List.getElem_append_left (by simp; omega)]
    have e : (((i : Int) - (k : Int)) % (zs.length : Int)).toNat = zs.length - k + i := by
      rw [← Int.add_emod_right, Int.emod_eq_of_lt (by omega) (by omega)]
      omega
    rw [e, List.getElem?_eq_getElem (by omega)]
    simp
  · rw [List.getElem_append_right (by simp; omega)]
    have e : (((i : Int) - (k : Int)) % (zs.length : Int)).toNat = i - k := by
      rw [Int.emod_eq_of_lt (by omega) (by omega)]
      omega
    rw [e, List.getElem?_eq_getElem (by omega)]
    simp
    congr 1
    omega

theorem turned_any (v : Value) (zs : List Int) (k : Nat) (w : World) (hv : IsI w v zs) (hk : k < zs.length) (hz : zs.length ≤ 1000) :
    Calls Tryz.prog 68 #[v, .int .i64 k] w (RetO w (mvL zs k)) := by
  have := turned0_any v zs k w hv hk hz
  rwa [drop_take_mv hk] at this

theorem reverse_img {zs : List Int} (hn : 1 ≤ zs.length) : (mvL zs ((zs.length - 1 : Nat) : Int)).reverse = imgL zs := by
  refine List.ext_getElem (by simp [mvL, mvTo, imgL, imgTo]) fun i h1 h2 => ?_
  simp [imgL, imgTo] at h2
  rw [List.getElem_reverse]
  simp only [mvL, mvTo, imgL, imgTo, List.getElem_map, List.getElem_range, List.length_map, List.length_range]
  have e : (((zs.length - 1 - i : Nat) : Int) - ((zs.length - 1 : Nat) : Int)) = -(i : Int) := by omega
  rw [e]

end Go.Proofs.YtkjgcmdabelohaaGreat

namespace Go.Proofs.YtkjgcmdabelohaaGreat

theorem mvTo_len (zs : List Int) (a : Int) (m : Nat) : (mvTo zs a m).length = m := by simp [mvTo]
theorem mvL_len (zs : List Int) (a : Int) : (mvL zs a).length = zs.length := by simp [mvL, mvTo]
theorem imgL_len (zs : List Int) : (imgL zs).length = zs.length := by simp [imgL, imgTo]
theorem mvL_at {zs : List Int} {a : Int} {i : Nat} (h : i < zs.length) : (mvL zs a)[i]?.getD 0 = zs[(((i : Int) - a) % (zs.length : Int)).toNat]?.getD 0 := by
  simp [mvL, mvTo, h]
theorem list_ext {xs ys : List Int} (h : xs.length = ys.length) (he : ∀ i, i < xs.length → xs[i]?.getD 0 = ys[i]?.getD 0) : xs = ys := by
  refine List.ext_getElem h fun i h1 h2 => ?_
  have := he i h1
  simpa [h1, h2] using this
theorem mvL_congr (zs : List Int) {a b : Int} (h : ∀ k : Int, (k - a) % (zs.length : Int) = (k - b) % (zs.length : Int)) : mvL zs a = mvL zs b := by
  unfold mvL mvTo
  refine List.map_congr_left fun k _ => ?_
  rw [h]
theorem sub_emod_emod (k x n : Int) : (k - x % n) % n = (k - x) % n := by
  rw [Int.sub_emod, Int.emod_emod, ← Int.sub_emod]
theorem emod_sub_emod (k x n : Int) : (k % n - x) % n = (k - x) % n := by
  rw [Int.sub_emod, Int.emod_emod, ← Int.sub_emod]
theorem mvL_emod (zs : List Int) (a : Int) : mvL zs (a % zs.length) = mvL zs a := mvL_congr zs fun k => sub_emod_emod k a _
theorem mvL_zero (zs : List Int) : mvL zs 0 = zs := by
  refine list_ext (mvL_len _ _) fun i hi => ?_
  rw [mvL_len] at hi
  rw [mvL_at hi, Int.sub_zero, Int.emod_eq_of_lt (by omega) (by omega)]
  rfl
theorem mvL_add (zs : List Int) (a b : Int) : mvL (mvL zs a) b = mvL zs (a + b) := by
  refine list_ext (by rw [mvL_len, mvL_len, mvL_len]) fun i hi => ?_
  rw [mvL_len, mvL_len] at hi
  rw [mvL_at (by rw [mvL_len]; exact hi), mvL_at hi, mvL_len]
  have h1 := Int.emod_nonneg ((i : Int) - b) (show (zs.length : Int) ≠ 0 by omega)
  have h2 := Int.emod_lt_of_pos ((i : Int) - b) (show (0 : Int) < zs.length by omega)
  rw [mvL_at (by omega), Int.toNat_of_nonneg h1, emod_sub_emod, show (i : Int) - b - a = i - (a + b) by omega]
theorem mvL_len_eq (zs : List Int) : mvL zs zs.length = zs := by
  have := mvL_emod zs zs.length
  rw [Int.emod_self, mvL_zero] at this
  exact this.symm

/-- Where xs, turned, is ys. -/
def matchTo (xs ys : List Int) (m : Nat) : List Int := ((List.range m).filter fun k => mvL xs (k : Nat) == ys).map fun k : Nat => (k : Int)
def matchL (xs ys : List Int) : List Int := matchTo xs ys xs.length
theorem matchTo_succ (xs ys : List Int) (m : Nat) : matchTo xs ys (m + 1) = matchTo xs ys m ++ (if (mvL xs m == ys) = true then [(m : Int)] else []) := by
  unfold matchTo
  rw [List.range_succ, List.filter_append, List.map_append]
  congr 1
  by_cases h : (mvL xs m == ys) = true
  · simp only [if_pos h, List.filter_cons, List.filter_nil, List.map_cons, List.map_nil]
  · simp only [if_neg h, List.filter_cons, List.filter_nil, List.map_nil]
theorem matchTo_len (xs ys : List Int) (m : Nat) : (matchTo xs ys m).length ≤ m := by
  unfold matchTo
  rw [List.length_map]
  exact Nat.le_trans (List.length_filter_le _ _) (by simp)

/-- t is the least step of at least 1 by which zs turned is zs. -/
structure LeastT (zs : List Int) (t : Nat) : Prop where
  pos : 1 ≤ t
  is : mvL zs t = zs
  least : ∀ s : Nat, 1 ≤ s → s < t → mvL zs s ≠ zs

theorem least_mul {zs : List Int} {t : Nat} (h : mvL zs t = zs) : ∀ q : Nat, mvL zs ((t * q : Nat) : Int) = zs
  | 0 => by simpa using mvL_zero zs
  | q + 1 => by
    have h1 := least_mul h q
    rw [show ((t * (q + 1) : Nat) : Int) = ((t * q : Nat) : Int) + (t : Int) by rw [Nat.mul_succ]; omega, ← mvL_add, h1, h]
theorem least_iff {zs : List Int} {t : Nat} (h : LeastT zs t) (k : Nat) : mvL zs k = zs ↔ k % t = 0 := by
  have h0 := Nat.div_add_mod k t
  have hr := Nat.mod_lt k h.pos
  have h1 : mvL zs k = mvL zs ((k % t : Nat) : Int) := by
    have := mvL_add zs ((t * (k / t) : Nat) : Int) ((k % t : Nat) : Int)
    rw [least_mul h.is] at this
    rw [this]
    congr 1
    omega
  rw [h1]
  constructor
  · intro h2
    rcases Nat.eq_zero_or_pos (k % t) with h3 | h3
    · exact h3
    · exact absurd h2 (h.least _ h3 hr)
  · intro h2
    rw [h2]
    exact mvL_zero zs
theorem filter_mul_len (t : Nat) (ht : 1 ≤ t) : ∀ m : Nat, ((List.range (t * m)).filter fun k => k % t == 0).length = m
  | 0 => by simp
  | m + 1 => by
    have ih := filter_mul_len t ht m
    rw [Nat.mul_succ, List.range_add, List.filter_append, List.length_append, ih, List.filter_map, List.length_map]
    have : (List.range t).filter ((fun k => k % t == 0) ∘ fun x => t * m + x) = [0] := by
      obtain ⟨s, rfl⟩ : ∃ s, t = s + 1 := ⟨t - 1, by omega⟩
      rw [List.range_succ_eq_map, List.filter_cons]
      have h0 : ((fun k => k % (s + 1) == 0) ∘ fun x => (s + 1) * m + x) 0 = true := by simp
      rw [if_pos h0, List.filter_eq_nil_iff.2]
      intro a ha
      simp at ha
      obtain ⟨b, hb, rfl⟩ := ha
      simp only [Function.comp_apply, beq_iff_eq]
      rw [Nat.mul_add_mod, Nat.mod_eq_of_lt (by omega)]
      omega
    rw [this]
    rfl
/-- The number of steps by which zs is itself tells the least one. -/
theorem least_len {zs : List Int} {t : Nat} (h : LeastT zs t) (hn : 1 ≤ zs.length) : zs.length / (matchL zs zs).length = t := by
  have hd : zs.length % t = 0 := (least_iff h zs.length).1 (mvL_len_eq zs)
  have h0 := Nat.div_add_mod zs.length t
  rw [hd, Nat.add_zero] at h0
  have hl : (matchL zs zs).length = zs.length / t := by
    unfold matchL matchTo
    rw [List.length_map]
    have e : ((List.range zs.length).filter fun k : Nat => mvL zs k == zs) = (List.range (t * (zs.length / t))).filter fun k => k % t == 0 := by
      rw [h0]
      refine List.filter_congr fun k _ => ?_
      rw [Bool.eq_iff_iff, beq_iff_eq, beq_iff_eq]
      exact least_iff h k
    rw [e, filter_mul_len t h.pos]
  rw [hl]
  have hq : 1 ≤ zs.length / t := by
    rcases Nat.eq_zero_or_pos (zs.length / t) with h1 | h1
    · rw [h1] at h0; omega
    · exact h1
  have := Nat.mul_div_cancel t hq
  rwa [h0] at this

theorem matchL_pos {zs : List Int} (hn : 1 ≤ zs.length) : 1 ≤ (matchL zs zs).length := by
  refine List.length_pos_of_mem (a := (0 : Int)) ?_
  unfold matchL matchTo
  refine List.mem_map.2 ⟨0, List.mem_filter.2 ⟨List.mem_range.2 hn, ?_⟩, rfl⟩
  rw [beq_iff_eq]
  exact mvL_zero zs
/-- The step after which zs comes again. -/
def periodOf (zs : List Int) : Int := ((zs.length / (matchL zs zs).length : Nat) : Int)
theorem matchTo_head {xs ys : List Int} {a : Int} {l : List Int} {k : Nat} (h : matchTo xs ys k = a :: l) : ∀ m, ∃ r, matchTo xs ys (k + m) = a :: r
  | 0 => ⟨l, h⟩
  | m + 1 => by
    obtain ⟨r, hr⟩ := matchTo_head h m
    exact ⟨_, by rw [← Nat.add_assoc, matchTo_succ, hr, List.cons_append]⟩
theorem matchL_head {xs ys : List Int} {k : Nat} (hk : k < xs.length) (h0 : matchTo xs ys k = []) (h : (mvL xs k == ys) = true) : ∃ r, matchL xs ys = (k : Int) :: r := by
  have h1 : matchTo xs ys (k + 1) = [(k : Int)] := by rw [matchTo_succ, h0, if_pos h, List.nil_append]
  obtain ⟨r, hr⟩ := matchTo_head h1 (xs.length - (k + 1))
  rw [Nat.add_sub_cancel' (by omega)] at hr
  exact ⟨r, hr⟩
def firstL : List Int → Int
  | [] => 0
  | a :: _ => a
def matchV (xs ys : List Int) : Int := firstL (matchL xs ys)
def emptyE (l : List Int) : Int := if l.isEmpty then 6 else 0
end Go.Proofs.YtkjgcmdabelohaaGreat

namespace Go.Proofs.YtkjgcmdabelohaaGreat
open Go.RowKit

/-- A call's answer: a new slice of ints, and an error's number. -/
def RetOE (w : World) (zs : List Int) (er : Int) (e : Ending) (w' : World) : Prop := ∃ v, e = .returned (.tuple #[v, .int .i64 er]) ∧ OwnI w.heap.size w' v zs ∧ Ext w w'

theorem checkB_iff {zs : List Int} : checkB zs = true ↔ 3 ≤ zs.length ∧ zs.length ≤ 96 ∧ allB 0 10000 zs = true := by
  simp [checkB, and_assoc]
def turnedL (zs : List Int) (a : Int) : List Int := if checkB zs then mvL zs a else []
def mirroredL (zs : List Int) : List Int := if checkB zs then imgL zs else []

theorem check_good {zs : List Int} (h : checkB zs = true) {v : Value} (w : World) (hv : IsI w v zs) : Calls Tryz.prog 22 #[v] w fun e w' => e = .returned (.int .i64 0) ∧ w = w' := by
  have := check_any v zs w hv
  rwa [checkE, if_pos h] at this
theorem check_bad {zs : List Int} (h : checkB zs = false) {v : Value} (w : World) (hv : IsI w v zs) : Calls Tryz.prog 22 #[v] w fun e w' => e = .returned (.int .i64 30) ∧ w = w' := by
  have := check_any v zs w hv
  rwa [checkE, if_neg (by rw [h]; decide)] at this
theorem refCheck_good {zs : List Int} (h : checkB zs = true) {v : Value} (w : World) (hv : IsI w v zs) : Calls Tryz.prog 45 #[v] w fun e w' => e = .returned (.int .i64 0) ∧ w = w' := by
  have := refCheck_any v zs w hv
  rwa [checkE, if_pos h] at this
theorem refCheck_bad {zs : List Int} (h : checkB zs = false) {v : Value} (w : World) (hv : IsI w v zs) : Calls Tryz.prog 45 #[v] w fun e w' => e = .returned (.int .i64 30) ∧ w = w' := by
  have := refCheck_any v zs w hv
  rwa [checkE, if_neg (by rw [h]; decide)] at this

set_option maxHeartbeats 400000 in
theorem Turned_any (v : Value) (zs : List Int) (x : Int) (w : World) (hv : IsI w v zs) :
    Calls Tryz.prog 41 #[v, .int .i64 x] w (RetOE w (turnedL zs x) (checkE zs)) := by
  cases hc : checkB zs
  · have HE := Lib.hid (show checkE zs = 30 by rw [checkE, hc]; rfl)
    have HL := Lib.hid (show turnedL zs x = [] by rw [turnedL, hc]; rfl)
    have HC := Lib.hid (check_bad hc w hv)
    go_enter Tryz.func41, Tryz.ntmps41
    go_wp2_with (go_at_call 22; refine HC.out.mono ?_; rintro e w' ⟨rfl, rfl⟩)
    go_ret2
    exact ⟨_, by rw [HE.out] <;> rfl, by rw [HL.out]; exact OwnI.nil _ _, Ext.refl _⟩
  · obtain ⟨h3, h96, _⟩ := checkB_iff.1 hc
    have HE := Lib.hid (show checkE zs = 0 by rw [checkE, hc]; rfl)
    have HL := Lib.hid (show turnedL zs x = mvL zs x by rw [turnedL, hc]; rfl)
    have HC := Lib.hid (check_good hc w hv)
    obtain ⟨j, hj, hjn⟩ := emod_nat x (n := zs.length) (by omega)
    have HT := turned_any v zs j w hv hjn (by omega)
    rw [← hj, mvL_emod, hj] at HT
    have HA := around_any x zs.length w (by omega) (by omega)
    rw [hj] at HA
    have HT' := Lib.hid HT
    have HA' := Lib.hid HA
    clear HT HA hj
    obtain ⟨A, n, c, rfl, hc0, hr, hn⟩ := hv.open_
    rw [hr.len] at HA'
    clear hr hv
    go_enter Tryz.func41, Tryz.ntmps41
    go_wp2_with (first
      | (go_at_call 22; refine HC.out.mono ?_; rintro e w' ⟨rfl, rfl⟩)
      | (go_at_call 69; refine HA'.out.mono ?_; rintro e w' ⟨rfl, rfl⟩)
      | (go_at_call 68; refine HT'.out.mono ?_; rintro e w' ⟨v1, rfl, hown, hx⟩))
    go_ret2
    exact ⟨_, by rw [HE.out] <;> rfl, by rw [HL.out]; exact hown, hx⟩

set_option maxRecDepth 100000 in
set_option maxHeartbeats 1000000 in
theorem matches_any (u v : Value) (xs ys : List Int) (w : World) (hu : IsI w u xs) (hv : IsI w v ys) (hn1 : 1 ≤ xs.length) (hz : xs.length ≤ 1000) :
    Calls Tryz.prog 73 #[u, v] w (RetO w (matchL xs ys)) := by
  have HU := Lib.hid hu
  have HV := Lib.hid hv
  obtain ⟨A, n, c, rfl, hc0, hr, hn⟩ := hu.open_
  have HL := Lib.hid hr.len
  rw [hr.len] at hn1 hz
  clear hr hu hv
  go_enter Tryz.func73, Tryz.ntmps73
  go_wp2
  go_loopw [9, 5, 6] (fun i s _ wr => ∃ k : Nat, k ≤ n ∧ i = .int .i64 k ∧ OwnI w.heap.size wr s (matchTo xs ys k) ∧ Ext w wr) (fun i _ _ _ => n - (intOf i).toNat)
  case atStart => exact ⟨0, by omega, rfl, OwnI.nil _ _, Ext.refl _⟩
  case round =>
    obtain ⟨k, hk, rfl, hown, hx⟩ := hrel
    by_cases hlt : k < n
    · have HX := Lib.hid hx
      have HO := Lib.hid hown
      have HT := Lib.hid (turned_any _ xs k wr (HU.out.ext hx) (by rw [HL.out]; exact hlt) (by rw [HL.out]; exact hz))
      clear hx hown
      go_wp2_with (go_at_call 68; refine HT.out.mono ?_; rintro e w1 ⟨v1, rfl, hown1, hx1⟩)
      have HX1 := Lib.hid (HX.out.trans hx1)
      have HO1 := Lib.hid (HO.out.ext hx1)
      have HQ := Lib.hid (equal_any v1 v _ ys w1 hown1.isI (HV.out.ext HX1.out))
      clear hown1 hx1
      cases hm : (mvL xs k == ys)
      · rw [hm] at HQ
        go_wp2_with (go_at_call 76; refine HQ.out.mono ?_; rintro e w2 ⟨rfl, hx2⟩)
        go_roundw
        case rel => exact ⟨k + 1, by omega, by go_num, by rw [matchTo_succ, hm, if_neg (by decide), List.append_nil]; exact HO1.out.ext hx2, HX1.out.trans hx2⟩
        case measure => simp [intOf]; omega
      · rw [hm] at HQ
        refine HQ.out.mono ?_
        rintro e w2 ⟨rfl, hx2⟩
        have HX2 := Lib.hid (HX1.out.trans hx2)
        have HC := Lib.hid (cell_new0 w2 (.int .i64 k) 3)
        have HO2 := Lib.hid (HO1.out.ext (hx2.alloc (.cells #[.int .i64 k] 3)))
        have HB := Lib.hid (show w.heap.size ≤ (w2.alloc (.cells #[.int .i64 k] 3)).heap.size from (HX2.out.alloc _).bel.size)
        have HZ := Lib.hid (show (matchTo xs ys k).length ≤ 1000000000 from Nat.le_trans (matchTo_len _ _ _) (by omega))
        clear hx2
        go_wp2_with (at_builtin; refine app_one rfl _ _ rfl _ _ _ rfl rfl HC.out HO2.out HB.out HZ.out ?_; intro v' w3 hown3 hb3)
        go_roundw
        case rel => exact ⟨k + 1, by omega, by go_num, by rw [matchTo_succ, hm, if_pos rfl]; exact hown3, (HX2.out.alloc _).below hb3 (Nat.le_refl _)⟩
        case measure => simp [intOf]; omega
    · obtain rfl : k = n := by omega
      go_wp2
      go_ret
      exact ⟨_, rfl, by rw [matchL, HL.out]; exact hown, hx⟩
end Go.Proofs.YtkjgcmdabelohaaGreat

namespace Go.Proofs.YtkjgcmdabelohaaGreat
open Go.RowKit

def periodV (zs : List Int) : Int := if checkB zs then periodOf zs else 0
theorem periodOf_def (zs : List Int) {m n : Nat} (hm : (matchL zs zs).length = m) (hn : zs.length = n) : periodOf zs = (n : Int) / (m : Int) := by
  rw [periodOf, hm, hn]; rfl

set_option maxRecDepth 100000 in
set_option maxHeartbeats 400000 in
theorem Period_any (v : Value) (zs : List Int) (w : World) (hv : IsI w v zs) :
    Calls Tryz.prog 56 #[v] w fun e w' => e = .returned (.tuple #[.int .i64 (periodV zs), .int .i64 (checkE zs)]) ∧ Ext w w' := by
  cases hc : checkB zs
  · have HE := Lib.hid (show checkE zs = 30 by rw [checkE, hc]; rfl)
    have HL := Lib.hid (show periodV zs = 0 by rw [periodV, hc]; rfl)
    have HC := Lib.hid (check_bad hc w hv)
    go_enter Tryz.func56, Tryz.ntmps56
    go_wp2_with (go_at_call 22; refine HC.out.mono ?_; rintro e w' ⟨rfl, rfl⟩)
    go_ret2
    exact ⟨by rw [HE.out, HL.out] <;> rfl, Ext.refl _⟩
  · obtain ⟨h3, h96, _⟩ := checkB_iff.1 hc
    have HE := Lib.hid (show checkE zs = 0 by rw [checkE, hc]; rfl)
    have HL := Lib.hid (show periodV zs = periodOf zs by rw [periodV, hc]; rfl)
    have HC := Lib.hid (check_good hc w hv)
    have HT' := Lib.hid (matches_any v v zs zs w hv hv (by omega) (by omega))
    obtain ⟨A, n, c, rfl, hc0, hr, hn⟩ := hv.open_
    have HN := Lib.hid hr.len
    have hP := matchL_pos (zs := zs) (by omega)
    clear hr hv
    rw [HN.out] at h3 h96
    go_enter Tryz.func56, Tryz.ntmps56
    go_wp2_with (go_at_call 22; refine HC.out.mono ?_; rintro e w' ⟨rfl, rfl⟩)
    refine HT'.out.mono ?_
    rintro e w1 ⟨v1, rfl, hown, hx⟩
    obtain ⟨A1, m, c1, rfl, _, hr1, hm⟩ := hown.isI.open_
    have HM := Lib.hid hr1.len
    rw [hr1.len] at hP
    clear hr1 hown
    have hm0 : ¬ (m : Int) = 0 := by omega
    have hm1 : (1 : Int) ≤ m := by omega
    have hd1 : 0 ≤ (n : Int) / (m : Int) := Int.ediv_nonneg (by omega) (by omega)
    have hd2 : (n : Int) / (m : Int) ≤ n := Int.ediv_le_self _ (by omega)
    go_wp2_with fail
    go_ret2
    exact ⟨by rw [HE.out, HL.out, periodOf_def zs HM.out HN.out] <;> rfl, hx⟩

def axesL (zs : List Int) : List Int := if checkB zs then matchL (imgL zs) zs else []

def matchE (xs ys : List Int) : Int := if checkB xs && checkB ys then emptyE (matchL xs ys) else 30
def matchN (xs ys : List Int) : Int := if checkB xs && checkB ys then firstL (matchL xs ys) else 0

end Go.Proofs.YtkjgcmdabelohaaGreat
