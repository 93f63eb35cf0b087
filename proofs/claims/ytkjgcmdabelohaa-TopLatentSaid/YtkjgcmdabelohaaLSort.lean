/- slices.SortFunc over shades by light.Compare. Condition: the shades are fractions in lowest terms; the slice is the call's own. -/
import Derived.Test.YtkjgcmdabelohaaLTools
import Derived.Sort.Grow
import Derived.Deep.Draws
import Derived.Test.YtkjgcmdabelohaaLOneP
import Derived.Test.YtkjgcmdabelohaaLXK
import Derived.Test.YtkjgcmdabelohaaLSortL
import Derived.Test.YtkjgcmdabelohaaAcc
import Derived.Shelf.SlSortCmp.NoneTotal
namespace Go.Proofs.Ytkjgcmdabelohaa
section
/- LGr: light.Compare lays blocks and does nothing else to a world. No condition. -/
open Go.RowKit Go.Sort

/-- A world with some draws more, and some blocks behind. -/
def GR (w w' : World) : Prop := ∃ q os, w' = grow (w.drewN q) os
theorem GR.refl (w : World) : GR w w := ⟨0, #[], by rw [grow_empty]; rfl⟩
theorem GR.alloc {w W : World} (h : GR w W) (o : Obj) : GR w (W.alloc o) := by
  obtain ⟨q, os, rfl⟩ := h
  exact ⟨q, os ++ #[o], by rw [alloc_eq_grow, grow_grow]⟩
theorem GR.trans {a b c : World} (h : GR a b) (k : GR b c) : GR a c := by
  obtain ⟨q, os, rfl⟩ := h
  obtain ⟨r, os', rfl⟩ := k
  refine ⟨q + r, os ++ os', ?_⟩
  rw [← grow_grow]
  show grow (grow ((a.drewN q).drewN r) os) os' = _
  rw [World.drewN_drewN]
theorem GR.ext {w w' : World} (h : GR w w') : Ext w w' := by
  obtain ⟨q, os, rfl⟩ := h
  exact .of ⟨rfl, rfl, rfl, by simp, fun k hk => by
    show (w.heap ++ os)[k]? = w.heap[k]?
    rw [Array.getElem?_append_left hk]⟩

theorem lfrom_gr (b : Nat) (x lo hi : Int) (c : Nat) (w : World) (h : w.cell? ⟨b, 0, none⟩ = some (.int .i64 x)) :
    Calls Try.prog 42 #[.int .i64 lo, .int .i64 hi, .slice (some ⟨b, 0, none⟩) 1 c] w fun e w' => e = .returned (.bool (inB lo hi x)) ∧ GR w w' := by
  have hz := rowI_one h
  have hz2 := hz.below (((Below.refl w.heap.size w).alloc (Nat.le_refl _) (.cells #[.int .i64 lo] 3)).alloc (by simp) (.cells #[.int .i64 hi] 3))
  have H := Lib.hid (fun p q => lcontainsFrom_any _ 1 c [x] lo hi ⟨w.heap.size, 0, none⟩ ⟨w.heap.size + 1, 0, none⟩ _ p q hz2)
  have HA := Lib.hid (show allB lo hi [x] = inB lo hi x by simp [allB])
  clear hz hz2
  go_enter Try.func42, Try.ntmps42
  go_wp2_with (go_at_call 32; refine (H.out (by go_simp) (by go_simp)).mono ?_; rintro e w' ⟨rfl, rfl⟩)
  go_ret
  exact ⟨by rw [← HA.out]; simp, ((GR.refl _).alloc _).alloc _⟩

set_option maxHeartbeats 1000000 in
theorem shaped_gr (n d : Int) (w : World) :
    Calls Try.prog 45 #[shadeV n d] w fun e w' => e = .returned (.bool (shapedB n d)) ∧ GR w w' := by
  cases h1 : inB 1 1000000000 d
  · have HV := Lib.hid (show shapedB n d = false by simp [shapedB, h1])
    go_enter Try.func45, Try.ntmps45
    go_wp2_with fail
    refine (lfrom_gr _ d _ _ _ _ (by go_cell)).mono ?_
    rintro e w1 ⟨rfl, g1⟩
    rw [h1]
    have HG := Lib.hid g1
    clear g1 h1
    go_wp2_with fail
    go_ret
    exact ⟨ret_b HV.out.symm, GR.trans (((GR.refl _).alloc _).alloc _) HG.out⟩
  · have HV := Lib.hid (show shapedB n d = inB 0 d n by simp [shapedB, h1])
    go_enter Try.func45, Try.ntmps45
    go_wp2_with fail
    refine (lfrom_gr _ d _ _ _ _ (by go_cell)).mono ?_
    rintro e w1 ⟨rfl, g1⟩
    rw [h1]
    have HG := Lib.hid (GR.trans (((GR.refl w).alloc _).alloc _) g1)
    have c0 : w1.cell? ⟨w.heap.size, 0, none⟩ = some (.int .i64 n) := g1.ext.cell_some (by go_cell)
    have c1 : w1.cell? ⟨w.heap.size, 1, none⟩ = some (.int .i64 d) := g1.ext.cell_some (by go_cell)
    have l0 := cell_lt c0
    clear g1 h1
    go_wp2_with fail
    refine (lfrom_gr _ n _ _ _ _ (by go_cell)).mono ?_
    rintro e w2 ⟨rfl, g2⟩
    have HG2 := Lib.hid (HG.out.trans (GR.trans ((GR.refl _).alloc _) g2))
    clear g2 c0 c1 l0
    generalize inB 0 d n = bb at *
    go_wp2_with fail
    go_ret
    exact ⟨ret_b HV.out.symm, HG2.out⟩

set_option maxHeartbeats 1000000 in
theorem compare_gr (an ad bn bd : Int) (w : World) :
    Calls Try.prog 16 #[shadeV an ad, shadeV bn bd] w fun e w' => e = .returned (.int .i64 (compareOf an ad bn bd)) ∧ GR w w' := by
  have HB1 := Lib.hid (show GR w ((w.alloc (.cells #[.int .i64 an, .int .i64 ad] 49)).alloc (.cells #[.int .i64 bn, .int .i64 bd] 49)) from ((GR.refl w).alloc _).alloc _)
  have HS1 := Lib.hid fun W : World => shaped_gr an ad W
  have HS2 := Lib.hid fun W : World => shaped_gr bn bd W
  cases h1 : shapedB an ad
  · have HT := Lib.hid (show compareOf an ad bn bd = 0 by simp [compareOf, h1])
    rw [h1] at HS1
    clear h1
    go_enter Try.func16, Try.ntmps16
    go_wp2_with fail
    refine (HS1.out _).mono ?_
    rintro e w1 ⟨rfl, g1⟩
    have HG := Lib.hid (HB1.out.trans g1)
    clear g1
    go_wp2_with fail
    go_ret
    exact ⟨by rw [HT.out]; rfl, HG.out⟩
  cases h2 : shapedB bn bd
  · have HT := Lib.hid (show compareOf an ad bn bd = 0 by simp [compareOf, h2])
    rw [h1] at HS1
    rw [h2] at HS2
    clear h1 h2
    go_enter Try.func16, Try.ntmps16
    go_wp2_with fail
    refine (HS1.out _).mono ?_
    rintro e w1 ⟨rfl, g1⟩
    have HG := Lib.hid (HB1.out.trans g1)
    have c0 : w1.cell? ⟨w.heap.size + 1, 0, none⟩ = some (.int .i64 bn) := g1.ext.cell_some (by go_cell)
    have c1 : w1.cell? ⟨w.heap.size + 1, 1, none⟩ = some (.int .i64 bd) := g1.ext.cell_some (by go_cell)
    have l0 := cell_lt c0
    clear g1
    go_wp2_with fail
    refine (HS2.out _).mono ?_
    rintro e w2 ⟨rfl, g2⟩
    have HG2 := Lib.hid (HG.out.trans g2)
    clear g2 c0 c1 l0
    go_wp2_with fail
    go_ret
    exact ⟨by rw [HT.out]; rfl, HG2.out⟩
  have HT := Lib.hid (show compareOf an ad bn bd = _ by rw [compareOf, h1, h2, Bool.and_true, if_pos rfl])
  obtain ⟨⟨ha1, ha2⟩, ha3, ha4⟩ := shapedB_iff.1 h1
  obtain ⟨⟨hb1, hb2⟩, hb3, hb4⟩ := shapedB_iff.1 h2
  obtain ⟨hm1, hm2⟩ := mul_bd ha3 (Int.le_trans ha4 ha2) (by omega : 0 ≤ bd) hb2
  obtain ⟨hm3, hm4⟩ := mul_bd hb3 (Int.le_trans hb4 hb2) (by omega : 0 ≤ ad) ha2
  rw [h1] at HS1
  rw [h2] at HS2
  clear h1 h2
  go_enter Try.func16, Try.ntmps16
  go_wp2_with fail
  refine (HS1.out _).mono ?_
  rintro e w1 ⟨rfl, g1⟩
  have HG := Lib.hid (HB1.out.trans g1)
  have c0 : w1.cell? ⟨w.heap.size + 1, 0, none⟩ = some (.int .i64 bn) := g1.ext.cell_some (by go_cell)
  have c1 : w1.cell? ⟨w.heap.size + 1, 1, none⟩ = some (.int .i64 bd) := g1.ext.cell_some (by go_cell)
  have d0 : w1.cell? ⟨w.heap.size, 0, none⟩ = some (.int .i64 an) := g1.ext.cell_some (by go_cell)
  have d1 : w1.cell? ⟨w.heap.size, 1, none⟩ = some (.int .i64 ad) := g1.ext.cell_some (by go_cell)
  have l0 := cell_lt c0
  clear g1
  go_wp2_with fail
  refine (HS2.out _).mono ?_
  rintro e w2 ⟨rfl, g2⟩
  have HG2 := Lib.hid (HG.out.trans g2)
  replace c0 := g2.ext.cell_some c0
  replace c1 := g2.ext.cell_some c1
  replace d0 := g2.ext.cell_some d0
  replace d1 := g2.ext.cell_some d1
  replace l0 := cell_lt c0
  clear g2
  go_wp2_with fail
  all_goals go_ret
  all_goals refine ⟨ret_i ?_, HG2.out⟩
  all_goals
    rw [HT.out]
    generalize an * bd = x at *
    generalize bn * ad = y at *
    (repeat' split) <;> omega
end
section
open Go.Sort
abbrev FracT := {s : Int × Int // FracIs s.1 s.2}
instance frac_some : Inhabited FracT := ⟨⟨(0, 1), frac_zero⟩⟩
def fEnc (x : FracT) : List Value := [.int .i64 x.1.1, .int .i64 x.1.2]
def fCmp (x y : FracT) : Int := compareOf x.1.1 x.1.2 y.1.1 y.1.2
theorem f_lt (x y : FracT) : ltOf fCmp x y = decide (x.1.1 * y.1.2 < y.1.1 * x.1.2) := by
  unfold ltOf fCmp
  rw [compare_frac x.2 y.2]
  by_cases h : x.1.1 * y.1.2 < y.1.1 * x.1.2
  · rw [if_pos h, decide_eq_true h]; rfl
  · rw [if_neg h, decide_eq_false h]
    split <;> rfl
theorem f_swo : SWO (ltOf fCmp) where
  irrefl x := by rw [f_lt]; simp
  trans x y z h1 h2 := by
    rw [f_lt] at *
    simp only [decide_eq_true_eq] at *
    apply Decidable.byContradiction
    intro h3
    have := le_trans3 (a := z.1.1) (b := z.1.2) (c := x.1.1) (d := x.1.2) (e := y.1.1) (f := y.1.2) (by have := z.2.d1; omega) (by have := x.2.d1; omega) (by have := y.2.d1; omega) (by omega) (by omega)
    omega
  ntrans x y z h1 h2 := by
    rw [f_lt] at *
    simp only [decide_eq_false_iff_not] at *
    have := le_trans3 (a := z.1.1) (b := z.1.2) (c := y.1.1) (d := y.1.2) (e := x.1.1) (f := x.1.2) (by have := z.2.d1; omega) (by have := y.2.d1; omega) (by have := x.2.d1; omega) (by omega) (by omega)
    omega
theorem fEnc_flat (d : Array FracT) (t : Nat) (h : t < d.size * 2) : ((d.toList.map Subtype.val).flatMap shadeK.enc)[t]? = some (flatK fEnc 2 d)[t]! := by
  rw [get_flatK fEnc 2 d t h]
  have hq : t / 2 < (d.toList.map Subtype.val).length := by simp; omega
  have e : t / 2 * 2 + t % 2 = t := by omega
  have := flat_at shadeK (d.toList.map Subtype.val) (t / 2) hq (t % 2) (show t % 2 < 2 by omega)
  rw [show shadeK.k = 2 from rfl, e] at this
  rw [this]
  have hd : t / 2 < d.size := by omega
  rw [getElem!_pos d _ hd]
  simp only [List.getElem_map, Array.getElem_toList]
  rcases (by omega : t % 2 = 0 ∨ t % 2 = 1) with h0 | h0 <;> rw [h0] <;> rfl
end
open Go.RowKit Go.Sort

theorem own_holds {B g c : Nat} {w : World} {xs : List (Int × Int)} (ho : shadeK.Own B w (.slice (some ⟨g, 0, none⟩) xs.length c) xs) (d : Array FracT) (hd : d.toList.map Subtype.val = xs) : HoldsK fEnc 2 w g 0 d := by
  intro j hj
  rw [size_flatK] at hj
  refine ⟨?_, World.ownsRow.frozenAt ho _⟩
  have h1 := fEnc_flat d j hj
  rw [hd] at h1
  have := World.ownsRow.cells ho (g := g) rfl j _ h1
  simp only [Addr.add] at this
  split at this
  · rename_i h0
    rw [h0] at this ⊢
    exact this
  · exact this
theorem own_sorted {B g n c : Nat} {w : World} {xs : List (Int × Int)} (ho : shadeK.Own B w (.slice (some ⟨g, 0, none⟩) n c) xs) (d : Array FracT) (hd : d.size = xs.length) (q : Nat) (os : Array Obj) :
    shadeK.Own B (sortWorldK fEnc 2 w g 0 q d os) (.slice (some ⟨g, 0, none⟩) n c) (d.toList.map Subtype.val) ∧ But [g] w (sortWorldK fEnc 2 w g 0 q d os) := by
  rcases ho.2 with ⟨e0, _⟩ | ⟨g', cap', cur, e0, hb, hg, hn, hm, hs, ht⟩
  · cases e0
  · injection e0 with e1 e2 e3
    injection e1 with e1
    injection e1 with e1
    subst e1 e2 e3
    have hgl : g < w.heap.size := (Array.getElem?_eq_some_iff.1 hg).1
    constructor
    · refine ⟨by rw [flat_len], .inr ⟨g, c, putCells id 0 (flatK fEnc 2 d) cur, by simp [hd], hb, ?_, by simpa [hd] using hn, hm, by simpa [putCells] using hs, ?_⟩⟩
      · have : (putRowK fEnc 2 (Sort.ahead w q) g 0 d).heap[g]? = some (.cells (putCells id 0 (flatK fEnc 2 d) cur) 49 (0, 0)) := by
          simp [putRowK, putRow, mapBlock, Sort.ahead, Array.getElem?_modify, hg, onCells, shadeK]
        show ((putRowK fEnc 2 (Sort.ahead w q) g 0 d).heap ++ os)[g]? = _
        rw [Array.getElem?_append_left (by simp [putRowK, putRow, mapBlock, Sort.ahead]; exact hgl)]
        exact this
      · have hl : (d.toList.map Subtype.val).length = d.size := by simp
        have hcs : xs.length * 2 ≤ cur.size := by
          rw [hs]
          exact Nat.mul_le_mul_right 2 hn
        apply List.ext_getElem?
        intro j
        rw [List.getElem?_take, Array.getElem?_toList, hl]
        by_cases hj : j < d.size * 2
        · rw [fEnc_flat d j hj, if_pos (show j < d.size * shadeK.k from hj)]
          have hjc : j < cur.size := by omega
          simp only [putCells, Array.getElem?_mapIdx, Array.getElem?_eq_getElem hjc, Option.map_some]
          rw [if_pos (by simp; omega)]
          rfl
        · rw [if_neg (show ¬ j < d.size * shadeK.k from hj), List.getElem?_eq_none (by rw [flat_len, hl]; exact Nat.le_of_not_lt hj)]
    · refine ⟨rfl, rfl, rfl, by simp [sortWorldK, putRowK, putRow, mapBlock, Sort.ahead], fun i hi hne => ?_⟩
      show ((putRowK fEnc 2 (Sort.ahead w q) g 0 d).heap ++ os)[i]? = _
      rw [Array.getElem?_append_left (by simp [putRowK, putRow, mapBlock, Sort.ahead]; exact hi)]
      have : g ≠ i := fun e => hne (by simp [e])
      simp [putRowK, putRow, mapBlock, Sort.ahead, Array.getElem?_modify, this]

/-- Sorted shades. -/
def SortedS (ys : List (Int × Int)) : Prop := ys.Pairwise fun a b => a.1 * b.2 ≤ b.1 * a.2

set_option maxRecDepth 100000 in
set_option maxHeartbeats 1000000 in
theorem sort_any (B g c : Nat) (xs : List (Int × Int)) (w : World) (hx : ∀ x ∈ xs, FracIs x.1 x.2) (ho : shadeK.Own B w (.slice (some ⟨g, 0, none⟩) xs.length c) xs) (hl : xs.length ≤ 1000000) :
    Calls Try.prog 79 #[.slice (some ⟨g, 0, none⟩) xs.length c, .func (.func 16) #[] #[]] w fun e w' => e = .returned (.tuple #[]) ∧ ∃ ys, (ys.Perm xs ∧ SortedS ys) ∧ shadeK.Own B w' (.slice (some ⟨g, 0, none⟩) xs.length c) ys ∧ But [g] w w' := by
  by_cases h0 : xs.length = 0
  · have := AnyF.slices_SortFunc_none Try.sortL (some ⟨g, 0, none⟩) c (.func (.func 16) #[] #[]) w
    change Calls Try.prog 79 _ _ _ at this
    rw [h0]
    refine this.mono fun e w' ⟨he, hw⟩ => ⟨he, [], ⟨?_, List.Pairwise.nil⟩, ?_, by rw [hw]; exact But.refl _ _⟩
    · rw [List.length_eq_zero_iff.1 h0]
    · rw [hw]
      have := List.length_eq_zero_iff.1 h0
      subst this
      exact ho
  · obtain ⟨d, hd⟩ : ∃ d : Array FracT, d.toList.map Subtype.val = xs := ⟨(xs.pmap (fun x h => (⟨x, h⟩ : FracT)) hx).toArray, by simp [List.map_pmap]⟩
    have hsz : d.size = xs.length := by rw [← hd]; simp
    have hgl : g < w.heap.size := (ho.lt g rfl).2
    have eg : ∀ args w, (callFunc 16 args).run Try.prog w = .ok (.enter 16 args) w := enters_of Try.func16 (by kernel_rfl) rfl
    have hcmp : CmpLays Try.prog 16 #[] fEnc 2 fCmp g 0 d.size w := fun m os dk _ x y => (compare_gr x.1.1 x.1.2 y.1.1 y.1.2 _).mono fun e w' ⟨he, hg⟩ => ⟨he, hg⟩
    have hcon := AnyQ.slices_SortFunc Try.sortL 2 Try.isAgg49 Try.sizeOf49 fEnc (fun _ => rfl) (fun x v hv => by simp [fEnc] at hv; rcases hv with rfl | rfl <;> rfl) fCmp f_swo 16 #[] g 0 c d w eg hcmp (own_holds ho d hd) hgl (by omega)
    change Calls Try.prog 79 _ _ _ at hcon
    rw [hsz] at hcon
    refine hcon.mono fun e w' ⟨he, d', n, os, hp, hs, hw⟩ => ⟨he, d'.toList.map Subtype.val, ⟨?_, ?_⟩, ?_⟩
    · obtain ⟨h1, _, h2⟩ := hp
      rw [← hsz, Array.extract_size, ← h1, Array.extract_size] at h2
      rw [← hd]
      exact h2.map _
    · unfold SortedS
      rw [List.pairwise_iff_getElem]
      intro i j hi hj hij
      have hi' : i < d'.size := by simpa using hi
      have hj' : j < d'.size := by simpa using hj
      have := hs i j (Nat.zero_le _) hij (by rw [← hsz, ← hp.1]; exact hj')
      rw [f_lt, decide_eq_false_iff_not, getElem!_pos d' j hj', getElem!_pos d' i hi'] at this
      simp only [List.getElem_map, Array.getElem_toList]
      omega
    · have := own_sorted ho d' (hp.1.trans hsz) n os
      rw [hw]
      exact this
end Go.Proofs.Ytkjgcmdabelohaa
