/- slices.SortFunc over spans by their lower ends. Condition: the ends are in bounds; the slice is the call's own. -/
import Derived.Test.YtkjgcmdabelohaaGreatMSpan
import Derived.Sort.Grow
import Derived.Deep.Draws
import Derived.Test.YtkjgcmdabelohaaGreatFSortL
import Derived.Shelf.SlSortCmp.NoneTotal
namespace Go.Proofs.YtkjgcmdabelohaaGreat
section
open Go.RowKit Go.Sort

/-- A world with some draws more, and some blocks behind. -/
def GR (w w' : World) : Prop := ∃ q os, w' = grow (w.drewN q) os
theorem GR.refl (w : World) : GR w w := ⟨0, #[], by rw [grow_empty]; rfl⟩
theorem GR.alloc {w W : World} (h : GR w W) (o : Obj) : GR w (W.alloc o) := by
  obtain ⟨q, os, rfl⟩ := h
  exact ⟨q, os ++ #[o], by rw [alloc_eq_grow, grow_grow]⟩
theorem GR.trans {a b c : World} (h : GR a b) (k : GR b c) : GR a c := by
  obtain ⟨q, os, rfl⟩ := h
  obtain ⟨r, os', rfl⟩ := k
  refine ⟨q + r, os ++ os', ?_⟩
  rw [← grow_grow]
  show grow (grow ((a.drewN q).drewN r) os) os' = _
  rw [World.drewN_drewN]
theorem GR.ext {w w' : World} (h : GR w w') : Ext w w' := by
  obtain ⟨q, os, rfl⟩ := h
  exact .of ⟨rfl, rfl, rfl, by simp, fun k hk => by
    show (w.heap ++ os)[k]? = w.heap[k]?
    rw [Array.getElem?_append_left hk]⟩


/-- A span whose lower end is in bounds. -/
def BdS (s : Int × Int) : Prop := -1000000000000000 ≤ s.1 ∧ s.1 ≤ 1000000000000000
theorem cmpS_gr (a b c d : Int) (w : World) (h1 : BdS (a, b)) (h2 : BdS (c, d)) :
    Calls Tryz.prog 94 #[spanV a b, spanV c d] w fun e w' => e = .returned (.int .i64 (a - c)) ∧ GR w w' := by
  have hw : IntKind.i64.wrap (a - c) = a - c := by unfold BdS at h1 h2; apply IntWalk.i64_in <;> simp only at h1 h2 <;> omega
  clear h1 h2
  go_enter Tryz.func94, Tryz.ntmps94
  go_wp2_with fail
  go_ret
  exact ⟨rfl, ((GR.refl _).alloc _).alloc _⟩
end
section
open Go.Sort
abbrev SpnT := {s : Int × Int // BdS s}
instance spn_some : Inhabited SpnT := ⟨⟨(0, 0), by unfold BdS; simp⟩⟩
def sEnc (x : SpnT) : List Value := [.int .i64 x.1.1, .int .i64 x.1.2]
def sCmp (x y : SpnT) : Int := x.1.1 - y.1.1
theorem s_lt (x y : SpnT) : ltOf sCmp x y = decide (x.1.1 < y.1.1) := by
  unfold ltOf sCmp
  rw [decide_eq_decide]
  omega
theorem s_swo : SWO (ltOf sCmp) where
  irrefl x := by rw [s_lt]; simp
  trans x y z h1 h2 := by
    rw [s_lt] at *
    simp only [decide_eq_true_eq] at *
    omega
  ntrans x y z h1 h2 := by
    rw [s_lt] at *
    simp only [decide_eq_false_iff_not] at *
    omega
theorem sEnc_flat (d : Array SpnT) (t : Nat) (h : t < d.size * 2) : ((d.toList.map Subtype.val).flatMap spanK.enc)[t]? = some (flatK sEnc 2 d)[t]! := by
  rw [get_flatK sEnc 2 d t h]
  have hq : t / 2 < (d.toList.map Subtype.val).length := by simp; omega
  have e : t / 2 * 2 + t % 2 = t := by omega
  have := flat_at spanK (d.toList.map Subtype.val) (t / 2) hq (t % 2) (show t % 2 < 2 by omega)
  rw [show spanK.k = 2 from rfl, e] at this
  rw [this]
  have hd : t / 2 < d.size := by omega
  rw [getElem!_pos d _ hd]
  simp only [List.getElem_map, Array.getElem_toList]
  rcases (by omega : t % 2 = 0 ∨ t % 2 = 1) with h0 | h0 <;> rw [h0] <;> rfl
end
open Go.RowKit Go.Sort

theorem spn_holds {B g c : Nat} {w : World} {xs : List (Int × Int)} (ho : spanK.Own B w (.slice (some ⟨g, 0, none⟩) xs.length c) xs) (d : Array SpnT) (hd : d.toList.map Subtype.val = xs) : HoldsK sEnc 2 w g 0 d := by
  intro j hj
  rw [size_flatK] at hj
  refine ⟨?_, World.ownsRow.frozenAt ho _⟩
  have h1 := sEnc_flat d j hj
  rw [hd] at h1
  have := World.ownsRow.cells ho (g := g) rfl j _ h1
  simp only [Addr.add] at this
  split at this
  · rename_i h0
    rw [h0] at this ⊢
    exact this
  · exact this
theorem spn_sorted {B g n c : Nat} {w : World} {xs : List (Int × Int)} (ho : spanK.Own B w (.slice (some ⟨g, 0, none⟩) n c) xs) (d : Array SpnT) (hd : d.size = xs.length) (q : Nat) (os : Array Obj) :
    spanK.Own B (sortWorldK sEnc 2 w g 0 q d os) (.slice (some ⟨g, 0, none⟩) n c) (d.toList.map Subtype.val) ∧ But [g] w (sortWorldK sEnc 2 w g 0 q d os) := by
  rcases ho.2 with ⟨e0, _⟩ | ⟨g', cap', cur, e0, hb, hg, hn, hm, hs, ht⟩
  · cases e0
  · injection e0 with e1 e2 e3
    injection e1 with e1
    injection e1 with e1
    subst e1 e2 e3
    have hgl : g < w.heap.size := (Array.getElem?_eq_some_iff.1 hg).1
    constructor
    · refine ⟨by rw [flat_len], .inr ⟨g, c, putCells id 0 (flatK sEnc 2 d) cur, by simp [hd], hb, ?_, by simpa [hd] using hn, hm, by simpa [putCells] using hs, ?_⟩⟩
      · have : (putRowK sEnc 2 (Sort.ahead w q) g 0 d).heap[g]? = some (.cells (putCells id 0 (flatK sEnc 2 d) cur) 123 (0, 0)) := by
          simp [putRowK, putRow, mapBlock, Sort.ahead, Array.getElem?_modify, hg, onCells, spanK]
        show ((putRowK sEnc 2 (Sort.ahead w q) g 0 d).heap ++ os)[g]? = _
        rw [Array.getElem?_append_left (by simp [putRowK, putRow, mapBlock, Sort.ahead]; exact hgl)]
        exact this
      · have hl : (d.toList.map Subtype.val).length = d.size := by simp
        have hcs : xs.length * 2 ≤ cur.size := by
          rw [hs]
          exact Nat.mul_le_mul_right 2 hn
        apply List.ext_getElem?
        intro j
        rw [List.getElem?_take, Array.getElem?_toList, hl]
        by_cases hj : j < d.size * 2
        · rw [sEnc_flat d j hj, if_pos (show j < d.size * spanK.k from hj)]
          have hjc : j < cur.size := by omega
          simp only [putCells, Array.getElem?_mapIdx, Array.getElem?_eq_getElem hjc, Option.map_some]
          rw [if_pos (by simp; omega)]
          rfl
        · rw [if_neg (show ¬ j < d.size * spanK.k from hj), List.getElem?_eq_none (by rw [flat_len, hl]; exact Nat.le_of_not_lt hj)]
    · refine ⟨rfl, rfl, rfl, by simp [sortWorldK, putRowK, putRow, mapBlock, Sort.ahead], fun i hi hne => ?_⟩
      show ((putRowK sEnc 2 (Sort.ahead w q) g 0 d).heap ++ os)[i]? = _
      rw [Array.getElem?_append_left (by simp [putRowK, putRow, mapBlock, Sort.ahead]; exact hi)]
      have : g ≠ i := fun e => hne (by simp [e])
      simp [putRowK, putRow, mapBlock, Sort.ahead, Array.getElem?_modify, this]

/-- In the order of the lower ends. -/
def LowUp (ys : List (Int × Int)) : Prop := ys.Pairwise fun a b => a.1 ≤ b.1

set_option maxRecDepth 100000 in
set_option maxHeartbeats 1000000 in
theorem sortS_any (B g c : Nat) (xs : List (Int × Int)) (w : World) (hx : ∀ x ∈ xs, BdS x) (ho : spanK.Own B w (.slice (some ⟨g, 0, none⟩) xs.length c) xs) (hl : xs.length ≤ 1000000) :
    Calls Tryz.prog 93 #[.slice (some ⟨g, 0, none⟩) xs.length c, .func (.func 94) #[] #[]] w fun e w' => e = .returned (.tuple #[]) ∧ ∃ ys, (ys.Perm xs ∧ LowUp ys) ∧ spanK.Own B w' (.slice (some ⟨g, 0, none⟩) xs.length c) ys ∧ But [g] w w' := by
  by_cases h0 : xs.length = 0
  · have := AnyF.slices_SortFunc_none Tryz.spanL (some ⟨g, 0, none⟩) c (.func (.func 94) #[] #[]) w
    change Calls Tryz.prog 93 _ _ _ at this
    rw [h0]
    refine this.mono fun e w' ⟨he, hw⟩ => ⟨he, [], ⟨?_, List.Pairwise.nil⟩, ?_, by rw [hw]; exact But.refl _ _⟩
    · rw [List.length_eq_zero_iff.1 h0]
    · rw [hw]
      have := List.length_eq_zero_iff.1 h0
      subst this
      exact ho
  · obtain ⟨d, hd⟩ : ∃ d : Array SpnT, d.toList.map Subtype.val = xs := ⟨(xs.pmap (fun x h => (⟨x, h⟩ : SpnT)) hx).toArray, by simp [List.map_pmap]⟩
    have hsz : d.size = xs.length := by rw [← hd]; simp
    have hgl : g < w.heap.size := (ho.lt g rfl).2
    have eg : ∀ args w, (callFunc 94 args).run Tryz.prog w = .ok (.enter 94 args) w := enters_of Tryz.func94 (by kernel_rfl) rfl
    have hcmp : CmpLays Tryz.prog 94 #[] sEnc 2 sCmp g 0 d.size w := fun m os dk _ x y => (cmpS_gr x.1.1 x.1.2 y.1.1 y.1.2 _ x.2 y.2).mono fun e w' ⟨he, hg⟩ => ⟨he, hg⟩
    have hcon := AnyQ.slices_SortFunc Tryz.spanL 2 Tryz.isAgg123 Tryz.sizeOf123 sEnc (fun _ => rfl) (fun x v hv => by simp [sEnc] at hv; rcases hv with rfl | rfl <;> rfl) sCmp s_swo 94 #[] g 0 c d w eg hcmp (spn_holds ho d hd) hgl (by omega)
    change Calls Tryz.prog 93 _ _ _ at hcon
    rw [hsz] at hcon
    refine hcon.mono fun e w' ⟨he, d', n, os, hp, hs, hw⟩ => ⟨he, d'.toList.map Subtype.val, ⟨?_, ?_⟩, ?_⟩
    · obtain ⟨h1, _, h2⟩ := hp
      rw [← hsz, Array.extract_size, ← h1, Array.extract_size] at h2
      rw [← hd]
      exact h2.map _
    · unfold LowUp
      rw [List.pairwise_iff_getElem]
      intro i j hi hj hij
      have hi' : i < d'.size := by simpa using hi
      have hj' : j < d'.size := by simpa using hj
      have := hs i j (Nat.zero_le _) hij (by rw [← hsz, ← hp.1]; exact hj')
      rw [s_lt, decide_eq_false_iff_not, getElem!_pos d' j hj', getElem!_pos d' i hi'] at this
      simp only [List.getElem_map, Array.getElem_toList]
      omega
    · have := spn_sorted ho d' (hp.1.trans hsz) n os
      rw [hw]
      exact this
end Go.Proofs.YtkjgcmdabelohaaGreat
