/- slices.SortFunc over shades by light.Compare. Condition: the shades are fractions in lowest terms; the slice is the call's own. -/
import Derived.Test.YtlljhimaopnbfaaLGr
import Derived.Test.YtlljhimaopnbfaaLOneP
import Derived.Test.YtlljhimaopnbfaaLX
import Derived.Test.YtlljhimaopnbfaaLSortL
import Derived.Test.YtlljhimaopnbfaaAcc
import Derived.Shelf.SlSortCmp.NoneTotal
namespace Go.Proofs.Ytlljhimaopnbfaa
section
open Go.Sort
abbrev FracT := {s : Int × Int // FracIs s.1 s.2}
instance frac_some : Inhabited FracT := ⟨⟨(0, 1), frac_zero⟩⟩
def fEnc (x : FracT) : List Value := [.int .i64 x.1.1, .int .i64 x.1.2]
def fCmp (x y : FracT) : Int := compareOf x.1.1 x.1.2 y.1.1 y.1.2
theorem f_lt (x y : FracT) : ltOf fCmp x y = decide (x.1.1 * y.1.2 < y.1.1 * x.1.2) := by
  unfold ltOf fCmp
  rw [compare_frac x.2 y.2]
  by_cases h : x.1.1 * y.1.2 < y.1.1 * x.1.2
  · rw [if_pos h, decide_eq_true h]; rfl
  · rw [if_neg h, decide_eq_false h]
    split <;> rfl
theorem f_swo : SWO (ltOf fCmp) where
  irrefl x := by rw [f_lt]; simp
  trans x y z h1 h2 := by
    rw [f_lt] at *
    simp only [decide_eq_true_eq] at *
    apply Decidable.byContradiction
    intro h3
    have := le_trans3 (a := z.1.1) (b := z.1.2) (c := x.1.1) (d := x.1.2) (e := y.1.1) (f := y.1.2) (by have := z.2.d1; omega) (by have := x.2.d1; omega) (by have := y.2.d1; omega) (by omega) (by omega)
    omega
  ntrans x y z h1 h2 := by
    rw [f_lt] at *
    simp only [decide_eq_false_iff_not] at *
    have := le_trans3 (a := z.1.1) (b := z.1.2) (c := y.1.1) (d := y.1.2) (e := x.1.1) (f := x.1.2) (by have := z.2.d1; omega) (by have := y.2.d1; omega) (by have := x.2.d1; omega) (by omega) (by omega)
    omega
theorem fEnc_flat (d : Array FracT) (t : Nat) (h : t < d.size * 2) : ((d.toList.map Subtype.val).flatMap shadeK.enc)[t]? = some (flatK fEnc 2 d)[t]! := by
  rw [get_flatK fEnc 2 d t h]
  have hq : t / 2 < (d.toList.map Subtype.val).length := by simp; omega
  have e : t / 2 * 2 + t % 2 = t := by omega
  have := flat_at shadeK (d.toList.map Subtype.val) (t / 2) hq (t % 2) (show t % 2 < 2 by omega)
  rw [show shadeK.k = 2 from rfl, e] at this
  rw [this]
  have hd : t / 2 < d.size := by omega
  rw [getElem!_pos d _ hd]
  simp only [List.getElem_map, Array.getElem_toList]
  rcases (by omega : t % 2 = 0 ∨ t % 2 = 1) with h0 | h0 <;> rw [h0] <;> rfl
end
open Go.RowKit Go.Sort

theorem own_holds {B g c : Nat} {w : World} {xs : List (Int × Int)} (ho : shadeK.Own B w (.slice (some ⟨g, 0, none⟩) xs.length c) xs) (d : Array FracT) (hd : d.toList.map Subtype.val = xs) : HoldsK fEnc 2 w g 0 d := by
  intro j hj
  rw [size_flatK] at hj
  refine ⟨?_, World.ownsRow.frozenAt ho _⟩
  have h1 := fEnc_flat d j hj
  rw [hd] at h1
  have := World.ownsRow.cells ho (g := g) rfl j _ h1
  simp only [Addr.add] at this
  split at this
  · rename_i h0
    rw [h0] at this ⊢
    exact this
  · exact this
theorem own_sorted {B g n c : Nat} {w : World} {xs : List (Int × Int)} (ho : shadeK.Own B w (.slice (some ⟨g, 0, none⟩) n c) xs) (d : Array FracT) (hd : d.size = xs.length) (q : Nat) (os : Array Obj) :
    shadeK.Own B (sortWorldK fEnc 2 w g 0 q d os) (.slice (some ⟨g, 0, none⟩) n c) (d.toList.map Subtype.val) ∧ But [g] w (sortWorldK fEnc 2 w g 0 q d os) := by
  rcases ho.2 with ⟨e0, _⟩ | ⟨g', cap', cur, e0, hb, hg, hn, hm, hs, ht⟩
  · cases e0
  · injection e0 with e1 e2 e3
    injection e1 with e1
    injection e1 with e1
    subst e1 e2 e3
    have hgl : g < w.heap.size := (Array.getElem?_eq_some_iff.1 hg).1
    constructor
    · refine ⟨by rw [flat_len], .inr ⟨g, c, putCells id 0 (flatK fEnc 2 d) cur, by simp [hd], hb, ?_, by simpa [hd] using hn, hm, by simpa [putCells] using hs, ?_⟩⟩
      · have : (putRowK fEnc 2 (Sort.ahead w q) g 0 d).heap[g]? = some (.cells (putCells id 0 (flatK fEnc 2 d) cur) 27 (0, 0)) := by
          simp [putRowK, putRow, mapBlock, Sort.ahead, Array.getElem?_modify, hg, onCells, shadeK]
        show ((putRowK fEnc 2 (Sort.ahead w q) g 0 d).heap ++ os)[g]? = _
        rw [Array.getElem?_append_left (by simp [putRowK, putRow, mapBlock, Sort.ahead]; exact hgl)]
        exact this
      · have hl : (d.toList.map Subtype.val).length = d.size := by simp
        have hcs : xs.length * 2 ≤ cur.size := by
          rw [hs]
          exact Nat.mul_le_mul_right 2 hn
        apply List.ext_getElem?
        intro j
        rw [List.getElem?_take, Array.getElem?_toList, hl]
        by_cases hj : j < d.size * 2
        · rw [fEnc_flat d j hj, if_pos (show j < d.size * shadeK.k from hj)]
          have hjc : j < cur.size := by omega
          simp only [putCells, Array.getElem?_mapIdx, Array.getElem?_eq_getElem hjc, Option.map_some]
          rw [if_pos (by simp; omega)]
          rfl
        · rw [if_neg (show ¬ j < d.size * shadeK.k from hj), List.getElem?_eq_none (by rw [flat_len, hl]; exact Nat.le_of_not_lt hj)]
    · refine ⟨rfl, rfl, rfl, by simp [sortWorldK, putRowK, putRow, mapBlock, Sort.ahead], fun i hi hne => ?_⟩
      show ((putRowK fEnc 2 (Sort.ahead w q) g 0 d).heap ++ os)[i]? = _
      rw [Array.getElem?_append_left (by simp [putRowK, putRow, mapBlock, Sort.ahead]; exact hi)]
      have : g ≠ i := fun e => hne (by simp [e])
      simp [putRowK, putRow, mapBlock, Sort.ahead, Array.getElem?_modify, this]

/-- Sorted shades. -/
def SortedS (ys : List (Int × Int)) : Prop := ys.Pairwise fun a b => a.1 * b.2 ≤ b.1 * a.2

set_option maxRecDepth 100000 in
set_option maxHeartbeats 1000000 in
theorem sort_any (B g c : Nat) (xs : List (Int × Int)) (w : World) (hx : ∀ x ∈ xs, FracIs x.1 x.2) (ho : shadeK.Own B w (.slice (some ⟨g, 0, none⟩) xs.length c) xs) (hl : xs.length ≤ 1000000) :
    Calls Try.prog 97 #[.slice (some ⟨g, 0, none⟩) xs.length c, .func (.func 23) #[] #[]] w fun e w' => e = .returned (.tuple #[]) ∧ ∃ ys, (ys.Perm xs ∧ SortedS ys) ∧ shadeK.Own B w' (.slice (some ⟨g, 0, none⟩) xs.length c) ys ∧ But [g] w w' := by
  by_cases h0 : xs.length = 0
  · have := AnyF.slices_SortFunc_none Try.sortL (some ⟨g, 0, none⟩) c (.func (.func 23) #[] #[]) w
    change Calls Try.prog 97 _ _ _ at this
    rw [h0]
    refine this.mono fun e w' ⟨he, hw⟩ => ⟨he, [], ⟨?_, List.Pairwise.nil⟩, ?_, by rw [hw]; exact But.refl _ _⟩
    · rw [List.length_eq_zero_iff.1 h0]
    · rw [hw]
      have := List.length_eq_zero_iff.1 h0
      subst this
      exact ho
  · obtain ⟨d, hd⟩ : ∃ d : Array FracT, d.toList.map Subtype.val = xs := ⟨(xs.pmap (fun x h => (⟨x, h⟩ : FracT)) hx).toArray, by simp [List.map_pmap]⟩
    have hsz : d.size = xs.length := by rw [← hd]; simp
    have hgl : g < w.heap.size := (ho.lt g rfl).2
    have eg : ∀ args w, (callFunc 23 args).run Try.prog w = .ok (.enter 23 args) w := enters_of Try.func23 (by kernel_rfl) rfl
    have hcmp : CmpLays Try.prog 23 #[] fEnc 2 fCmp g 0 d.size w := fun m os dk _ x y => (compare_gr x.1.1 x.1.2 y.1.1 y.1.2 _).mono fun e w' ⟨he, hg⟩ => ⟨he, hg⟩
    have hcon := AnyQ.slices_SortFunc Try.sortL 2 Try.isAgg27 Try.sizeOf27 fEnc (fun _ => rfl) (fun x v hv => by simp [fEnc] at hv; rcases hv with rfl | rfl <;> rfl) fCmp f_swo 23 #[] g 0 c d w eg hcmp (own_holds ho d hd) hgl (by omega)
    change Calls Try.prog 97 _ _ _ at hcon
    rw [hsz] at hcon
    refine hcon.mono fun e w' ⟨he, d', n, os, hp, hs, hw⟩ => ⟨he, d'.toList.map Subtype.val, ⟨?_, ?_⟩, ?_⟩
    · obtain ⟨h1, _, h2⟩ := hp
      rw [← hsz, Array.extract_size, ← h1, Array.extract_size] at h2
      rw [← hd]
      exact h2.map _
    · unfold SortedS
      rw [List.pairwise_iff_getElem]
      intro i j hi hj hij
      have hi' : i < d'.size := by simpa using hi
      have hj' : j < d'.size := by simpa using hj
      have := hs i j (Nat.zero_le _) hij (by rw [← hsz, ← hp.1]; exact hj')
      rw [f_lt, decide_eq_false_iff_not, getElem!_pos d' j hj', getElem!_pos d' i hi'] at this
      simp only [List.getElem_map, Array.getElem_toList]
      omega
    · have := own_sorted ho d' (hp.1.trans hsz) n os
      rw [hw]
      exact this
end Go.Proofs.Ytlljhimaopnbfaa
