/- rosette.Contacts. Condition: slices read as lists. -/
import Derived.Test.YtaaceadcnnfngaaShelf
import Derived.Test.YtaaceadcnnfngaaInts
import Derived.Sort.OwnSortedInts
import Derived.Test.YtaaceadcnnfngaaROff
import Derived.Test.YtaaceadcnnfngaaRConP
import Derived.Test.YtaaceadcnnfngaaQDag
import Derived.Test.YtaaceadcnnfngaaQApp
import Derived.Test.YtaaceadcnnfngaaCCount
namespace Go.Proofs.Ytaaceadcnnfngaa
section
/- RSort: slices.Sort of a slice that the call made itself. Condition: at least one number. -/
open Go.RowKit Go.Sort

def sortL (zs : List Int) : List Int := zs.mergeSort fun x y => decide (x ≤ y)
theorem sort_any {B : Nat} (v : Value) (zs : List Int) (w : World) (h : OwnI B w v zs) (hne : zs ≠ []) (hl : zs.length ≤ 1000000) :
    Calls Try.prog 86 #[v] w fun e w' => e = .returned (.tuple #[]) ∧ OwnI B w' v (sortL zs) ∧ w.grownBy w' v.ownBlock := by
  rcases h.2 with ⟨_, h0⟩ | ⟨g, cap, cur, rfl, hb, hg, hn, hm, hs, ht⟩
  · exact absurd (List.length_eq_zero_iff.1 h0) hne
  · refine (Try.slices_Sort_int g 0 cap zs w (holds_of_blockI hg (by simpa using ht)) (Array.getElem?_eq_some_iff.1 hg).1 (by omega)).mono ?_
    rintro e w' ⟨rfl, n, os, rfl⟩
    have hlen : (sortL zs).length = zs.length := List.length_mergeSort _
    refine ⟨rfl, ?_, grownBy_sortedI _⟩
    have := ownsRow_sortedI (w := w) (base := B) (n := n) (os := os) (ss := zs) (ts := sortL zs) hlen hb hg hn hm hs
    unfold OwnI
    rw [hlen]
    exact this
end
section
/- ROffK: rosette.offsets: what ranges over it are told, whatever the rounds keep. Condition: the slice reads as a list. -/
open Go.RowKit

attribute [local go_sem] Oper.semAt_some

set_option maxRecDepth 100000 in
set_option maxHeartbeats 2000000 in
theorem offsetsK1_in (F : Fence) (n : Nat) (h8 : F.fn 100) (hro : F.round = none) (hn : 1 ≤ n) (l Bs b off len cap : Nat) (zs : List Int) (hlen : len ≤ 1000000) (Kp : World → World → Prop) (hR : ∀ W, Kp W W) (hT : ∀ {A B C : World}, Kp A B → Kp B C → Kp A C)
    (hk1 : ∀ {A B : World} {v : Value}, Kp A B → A.cell? ⟨Bs, 0, none⟩ = some v → B.cell? ⟨Bs, 0, none⟩ = some v) (hk2 : ∀ {A B : World} {o : Nat} {v : Value}, Kp A B → A.cell? ⟨b, o, none⟩ = some v → B.cell? ⟨b, o, none⟩ = some v) (J Jx : List Nat → World → Prop)
    (hY : ∀ pre x W, J pre W → pre.length < len → YieldAt F (n - 1) Try.prog l (offEnc zs len x) W fun e W' =>
      (e = .returned (.bool true) ∧ J (pre ++ [x]) W' ∧ Kp W W') ∨ (e = .returned (.bool false) ∧ Jx (pre ++ [x]) W'))
    (W : World) (hBs : W.cell? ⟨Bs, 0, none⟩ = some (.slice (some ⟨b, off, none⟩) len cap)) (hc : ∀ j, j < len → W.cell? ⟨b, off + j, none⟩ = some (.int .i64 (zs[j]?.getD 0))) (h0 : J [] W) :
    CallsIn F n Try.prog 100 #[.func (.yield l) #[] #[], .pointer (some ⟨Bs, 0, none⟩)] W fun e W' => (∃ v, e = .returned v) ∧
      ((∃ ys, ys = List.range len ∧ J ys W') ∨ (∃ pre, (∃ k, k ≤ len ∧ pre = List.range k) ∧ Jx pre W')) := by
  refine callsIn_of_wp Try.func100 rfl h8 ?_ hro
  simp only [Try.ntmps100, List.size_toArray, List.length_cons, List.length_nil, Nat.reduceAdd, Nat.reduceSub, Array.replicate_succ, Array.replicate_zero, List.push_toArray, List.append_toArray, List.nil_append, List.cons_append]
  gi_wp2
  gi_loopw [7, 3, 4] (fun i _ _ wr => ∃ k : Nat, k ≤ len ∧ i = .int .i64 k ∧ J (List.range k) wr ∧ Kp W wr)
    (fun i _ _ _ => len - (intOf i).toNat)
  case atStart => exact ⟨0, Nat.zero_le _, rfl, h0, hR _⟩
  case round =>
    obtain ⟨k, hk, rfl, hJs, hnx⟩ := hrel
    by_cases hlt : k < len
    · have hcx' : wr.cell? ⟨b, off + k, none⟩ = some (.int .i64 (zs[k]?.getD 0)) := hk2 hnx (hc k hlt)
      have hbx' : wr.cell? ⟨Bs, 0, none⟩ = some (.slice (some ⟨b, off, none⟩) len cap) := hk1 hnx hBs
      obtain ⟨fn, tmps, assign, body, hy, hR⟩ := hY _ k wr hJs (by rw [List.length_range]; exact hlt)
      simp only [offEnc, Nat.min_eq_left (Nat.le_of_lt hlt)] at hy
      gi_wp2
      refine hR.mono ?_
      rintro e W3 (⟨rfl, hJ3, hk3⟩ | ⟨rfl, hJx3⟩)
      · gi_wp2
        go_roundw
        case rel => exact ⟨k + 1, by omega, by simp, by rw [List.range_succ]; exact hJ3, hT hnx hk3⟩
        case measure => simp [intOf]; omega
      · gi_wp2
        refine bodyPost_ret (results_none rfl _ _ _) rfl ?_
        exact ⟨⟨_, rfl⟩, .inr ⟨_, ⟨k + 1, by omega, List.range_succ.symm⟩, hJx3⟩⟩
    · obtain rfl : k = len := by omega
      gi_wp2
      go_end0
      exact ⟨⟨_, rfl⟩, .inl ⟨_, rfl, hJs⟩⟩

theorem offsetsK_stops (F : Fence) (n : Nat) (h8 : F.fn 100) (hro : F.round = none) (hn : 1 ≤ n) (Bs b off len cap : Nat) (zs : List Int) (hlen : len ≤ 1000000) (Kp : World → World → Prop) (hR : ∀ W, Kp W W) (hT : ∀ {A B C : World}, Kp A B → Kp B C → Kp A C)
    (hk1 : ∀ {A B : World} {v : Value}, Kp A B → A.cell? ⟨Bs, 0, none⟩ = some v → B.cell? ⟨Bs, 0, none⟩ = some v) (hk2 : ∀ {A B : World} {o : Nat} {v : Value}, Kp A B → A.cell? ⟨b, o, none⟩ = some v → B.cell? ⟨b, o, none⟩ = some v) (w : World)
    (hBl : Bs < w.heap.size) (hbl : b < w.heap.size) (hBs : w.cell? ⟨Bs, 0, none⟩ = some (.slice (some ⟨b, off, none⟩) len cap)) (hc : ∀ j, j < len → w.cell? ⟨b, off + j, none⟩ = some (.int .i64 (zs[j]?.getD 0))) :
    SeqStopsK F n Try.prog 100 #[.pointer (some ⟨Bs, 0, none⟩)] (offEnc zs len) Kp (fun ys => ys = List.range len) (fun pre => ∃ k, k ≤ len ∧ pre = List.range k) len w := fun l J Jx W hW _ _ hY h0 =>
  offsetsK1_in F n h8 hro hn l Bs b off len cap zs hlen Kp hR hT hk1 hk2 J Jx hY W ((hW.cell (p := ⟨Bs, 0, none⟩) hBl).trans hBs) (fun j hj => (hW.cell (p := ⟨b, off + j, none⟩) hbl).trans (hc j hj)) h0
end
open Go.RowKit Go.Shelf

attribute [local go_sem] Oper.semAt_some

/-- The cells of blocks below K other than B hold what they held. -/
def CellsLow (K B : Nat) (W W' : World) : Prop := ∀ b o v, b < K → b ≠ B → W.cell? ⟨b, o, none⟩ = some v → W'.cell? ⟨b, o, none⟩ = some v

theorem CellsLow.refl (K B : Nat) (W : World) : CellsLow K B W W := fun _ _ _ _ _ h => h
theorem CellsLow.trans {K B : Nat} {W W' W2 : World} (h : CellsLow K B W W') (k : CellsLow K B W' W2) : CellsLow K B W W2 := fun b o v hk hb hc => k b o v hk hb (h b o v hk hb hc)
theorem CellsLow.put {K B : Nat} {W : World} {l : Nat} {o o' : Obj} (hl : W.heap[l]? = some o) (ho : o.isCells = false) : CellsLow K B W (W.putObj l o') := fun b x v _ _ h =>
  cell_kept h (grownBy_putObj' W l o') (fun r e => by cases e; exact ⟨o, hl, ho⟩)
theorem own_apart {B B' : Nat} {W : World} {sv : Value} {zs : List Int} {row : Option Nat} (h : OwnI B W sv zs) (hr : ∀ r, row = some r → B' ≤ r ∧ ∃ o : Obj, W.heap[r]? = some o ∧ o.isCells = false) : sv.ownBlock = none ∨ sv.ownBlock ≠ row := by
  rcases h.2 with ⟨e, _⟩ | ⟨g, cap, cur, e, _, hh, _⟩
  · rw [e]; exact .inl rfl
  · rw [e]
    refine .inr fun e2 => ?_
    obtain ⟨_, o, ho, hc⟩ := hr g e2.symm
    rw [hh] at ho
    cases ho
    cases hc
theorem ButC.grownO {D : List Nat} {w a b : World} {row : Option Nat} (h : ButC D w a) (g : a.grownBy b row) (hr : ∀ r, row = some r → r ∈ D ∨ w.heap.size ≤ r) : ButC D w b := by
  cases row with
  | none => exact h.ext (Ext.of ⟨g.os, g.tape, g.output, g.size, fun i hi => g.block i hi (by simp)⟩)
  | some r => exact h.grown g (hr r rfl)
theorem own_not {B : Nat} {W : World} {sv : Value} {zs : List Int} (h : OwnI B W sv zs) {k : Nat} {o : Obj} (hk : W.heap[k]? = some o) (hc : o.isCells = false) : some k ≠ sv.ownBlock := by
  rcases h.2 with ⟨e, _⟩ | ⟨g, cap, cur, e, _, hh, _⟩
  · rw [e]; exact fun e => by cases e
  · rw [e]
    intro e2
    simp only [Value.ownBlock, Option.some.injEq] at e2
    subst e2
    rw [hh] at hk
    cases hk
    cases hc
/-- What a box below K holds, when a slice from K on has grown. -/
theorem box_app {K B : Nat} {W w3 w4 : World} {sv v : Value} {zs : List Int} (x : Ext W w3) (h : OwnI K W sv zs) (g : w3.grownBy w4 sv.ownBlock) (hB : B < K) (hc : W.cell? ⟨B, 0, none⟩ = some v) (hf : W.frozen? ⟨B, 0, none⟩ = false) :
    w4.cell? ⟨B, 0, none⟩ = some v ∧ w4.frozen? ⟨B, 0, none⟩ = false := by
  have hne : some B ≠ sv.ownBlock := fun e => by have := (World.ownsRow.lt h B e.symm).1; omega
  have h3 := x.cell_some hc
  exact ⟨g.cell h3 hne, by
    have h4 := x.frozen hc hf
    have := g.block B (cell_lt h3) hne
    simp only [World.frozen?, this] at h4 ⊢
    exact h4⟩
theorem keeps_app {K B : Nat} {W w3 w4 : World} {sv v : Value} {zs : List Int} (x : Ext W w3) (h : OwnI K W sv zs) (g : w3.grownBy w4 sv.ownBlock) (hB : B < K) :
    KeepsFrom K W (w4.setCell ⟨B, 0, none⟩ v) ∧ CellsLow K B W (w4.setCell ⟨B, 0, none⟩ v) := by
  refine ⟨⟨by simpa using Nat.le_trans x.bel.size g.size, fun k o hk ho hc => ?_⟩, fun b o u hb hne hc => ?_⟩
  · have hlt := (Array.getElem?_eq_some_iff.1 ho).1
    rw [heap_setCell_other w4 ⟨B, 0, none⟩ k v (by simp; omega)]
    exact (g.block k (Nat.lt_of_lt_of_le hlt x.bel.size) (own_not h ho hc)).trans ((x.bel.block k hlt).trans ho)
  · have h3 := x.cell_some hc
    have hn : some b ≠ sv.ownBlock := fun e => by have := (World.ownsRow.lt h b e.symm).1; omega
    have h4 := g.cell h3 hn
    have h5 := heap_setCell_other w4 ⟨B, 0, none⟩ b v hne
    simp only [World.cell?, h5] at h4 ⊢
    exact h4
theorem own_setCell {K B : Nat} {w : World} {sv v : Value} {zs : List Int} (h : OwnI K w sv zs) (hB : B < K) : OwnI K (w.setCell ⟨B, 0, none⟩ v) sv zs := by
  refine World.ownsRow.kept h (row := some B) ⟨rfl, rfl, rfl, by simp, fun i _ hi => heap_setCell_other w ⟨B, 0, none⟩ i _ (fun e => hi (by simp [e]))⟩ ?_
  rcases hb : sv.ownBlock with _ | r
  · exact .inl rfl
  · refine .inr fun e => ?_
    have := (World.ownsRow.lt h r hb).1
    cases e
    omega

set_option maxRecDepth 100000 in
set_option maxHeartbeats 4000000 in
theorem contacts_good (u v : Value) (xs ys : List Int) (p : Nat) (w : World) (hu : IsI w u xs) (hv : IsI w v ys) (hf : Fine xs ys) (hp : p < xs.length) :
    Calls Try.prog 53 #[u, v, .int .i64 p] w (RetOE w (touchesL xs ys p) 0) := by
  have HF := Lib.hid hf
  have f1 := hf.lo
  have f2 := hf.hi
  have f4 := hf.le31
  have f5 := hf.odd
  have HU := Lib.hid hu
  have HV := Lib.hid hv
  have HB := Lib.hid fun W (x : Ext w W) => both_zero (fine_iff.2 hf) (hu.ext x) (hv.ext x)
  obtain ⟨A, n, c, rfl, hc0, hr, hn⟩ := hu.open_
  obtain ⟨A', m, c', rfl, hd0, hs, hm⟩ := hv.open_
  have HL1 := Lib.hid hr.len
  have HL2 := Lib.hid hs.len
  rw [HL1.out] at f1 f2 hp
  rw [HL2.out] at f4 f5
  have hy1 : 1 ≤ m := by omega
  obtain ⟨bf, of, rfl, hbf, _⟩ := hr.at_ 0 (by omega)
  obtain ⟨br, or', rfl, hbr, _⟩ := hs.at_ 0 (by omega)
  have HR := Lib.hid hr
  have HS := Lib.hid hs
  clear hr hs hu hv hf f5
  refine (callsIn_wide (n := 3)).1 ?_
  refine callsIn_of_wp_marks Try.func53 rfl trivial ?_ rfl
  simp only [Try.ntmps53, List.size_toArray, List.length_cons, List.length_nil, Nat.reduceAdd, Nat.reduceSub, Array.replicate_succ, Array.replicate_zero, List.push_toArray, List.append_toArray, List.nil_append, List.cons_append]
  gi_wp2_with (refine ⟨trivial, ?_⟩; gi_at_call 80; refine (callsIn_wide.2 (HB.out _ (by (repeat' (first | with_reducible exact Ext.refl _ | with_reducible apply Ext.alloc | with_reducible apply Ext.drew | with_reducible apply Ext.drewN | with_reducible refine Ext.setCell ?_ ?_ _ | with_reducible apply Ext.step | with_reducible assumption | with_reducible exact Nat.le_refl _ | (simp; done) | (simp; omega)))))).mono ?_; rintro e _ ⟨rfl, rfl⟩)
  refine lay_in (fun W => Ext w W ∧ W.heap.size = w.heap.size + 3 ∧ W.cell? ⟨w.heap.size, 0, none⟩ = some (.slice (some ⟨bf, of, none⟩) n c) ∧ W.cell? ⟨w.heap.size + 1, 0, none⟩ = some (.slice (some ⟨br, or', none⟩) m c') ∧
    W.cell? ⟨w.heap.size + 1 + 1, 0, none⟩ = some (.int .i64 p)) ⟨by (repeat' (first | with_reducible exact Ext.refl _ | with_reducible apply Ext.alloc | with_reducible apply Ext.drew | with_reducible apply Ext.drewN | with_reducible refine Ext.setCell ?_ ?_ _ | with_reducible apply Ext.step | with_reducible assumption | with_reducible exact Nat.le_refl _ | (simp; done) | (simp; omega))), by simp, by go_cell, by go_cell, by go_cell⟩ ?_
  rintro W0 ⟨X0, hsz, b0, b1, b2⟩
  have hd1 : decide ((p : Int) < 0) = false := by simp
  have hd2 : decide (n ≤ p) = false := by simp; omega
  obtain ⟨L, hL⟩ : ∃ L, (liftL xs ys)[p]?.getD 0 = L := ⟨_, rfl⟩
  have HLL := Lib.hid hL
  have HLF := Lib.hid fun W (x : Ext w W) => lifted_makes _ _ xs ys W (HU.out.ext x) (HV.out.ext x) HF.out
  have HTO := Lib.hid fun W (x : Ext w W) => touches_any _ _ xs ys p L W (HU.out.ext x) (HV.out.ext x) HF.out (by rw [HL1.out]; exact hp)
  have HX0 := Lib.hid X0
  clear X0 hL
  gi_wp2
  rename_i K hK
  obtain ⟨tb, htb⟩ : ∃ tb, touchB xs ys p L = tb := ⟨_, rfl⟩
  have HTB := Lib.hid htb
  have HTL := Lib.hid (show tb < 2 ^ 40 from by rw [← htb]; exact Nat.lt_of_lt_of_le (touchB_lt _ _ _ _) (Nat.pow_le_pow_right (by decide) (by rw [HL2.out]; omega)))
  rw [htb] at HTO
  clear htb
  have HSZ := Lib.hid hsz
  clear hsz
  have c0 := cell_lt b0
  have c1 := cell_lt b1
  have c2 := cell_lt b2
  refine Code.wpIn_mono (Q := fun e a' W' => e = .normal ∧ Ext W0 W' ∧ ∃ b, W0.heap.size ≤ b ∧ W'.cell? ⟨b, 0, none⟩ = some (.int .u64 tb) ∧ ∃ u0 u1 u2 u6 u7 u8 u10 u11 u12 u13 u14 u15 u16 u17 u18 u19 u20 u21 u22 u23 u24 u25 u26 u27 u28 u29 u30 u31 u32 u33 u34 u35 : Value, a' = { tmps := #[u0, u1, u2, .pointer (some ⟨w.heap.size, 0, none⟩), .pointer (some ⟨w.heap.size + 1, 0, none⟩), .pointer (some ⟨w.heap.size + 1 + 1, 0, none⟩), u6, u7, u8, .pointer (some ⟨b, 0, none⟩), u10, u11, u12, u13, u14, u15, u16, u17, u18, u19, u20, u21, u22, u23, u24, u25, u26, u27, u28, u29, u30, u31, u32, u33, u34, u35, undef, undef, undef, undef, undef, undef, undef, undef, undef, undef, undef, undef, undef, undef, undef, undef, undef, undef, undef, undef, undef, undef, undef, undef, undef], defers := [] }) ?later ?region
  case region =>
    refine wpIn_region_tree (B := W0.heap.size) 11 [0, 1, 2, 3, 4, 6] (Nat.le_refl _) (by kernel_rfl) (by kernel_rfl) ?_
    repeat (refine wpQ_step (by rfl) (fun _ _ _ => trivial) (fun K hK => ?_); go_simp; refine hK _ ?_; clear hK K)
    refine wpQ_nil ?_
    have HX := Lib.hid (Ext.refl W0)
    change wpAnyT _ _ _ _ _ _ _ _ _ (4 + 1) _ _ _
    repeat (any_goals (
      (first
        | refine wpAnyT_step [5, 10] (by decide +kernel) (by decide) (by decide) ?_
        | refine wpAnyT_step [7, 10] (by decide +kernel) (by decide) (by decide) ?_
        | refine wpAnyT_step [8, 10] (by decide +kernel) (by decide) (by decide) ?_
        | refine wpAnyT_step [9, 10] (by decide +kernel) (by decide) (by decide) ?_
        | refine wpAnyT_step [5] (by decide +kernel) (by decide) (by decide) ?_
        | refine wpAnyT_step [7] (by decide +kernel) (by decide) (by decide) ?_
        | refine wpAnyT_step [8] (by decide +kernel) (by decide) (by decide) ?_
        | refine wpAnyT_step [9] (by decide +kernel) (by decide) (by decide) ?_
        | refine wpAnyT_step [10] (by decide +kernel) (by decide) (by decide) ?_)
      intro i hi
      simp only [List.mem_cons, List.not_mem_nil, or_false] at hi
      first | (rcases hi with rfl | rfl) | (subst hi)
      all_goals (
        refine ⟨_, by rfl, midT_step (by rfl) (fun _ _ _ => trivial) (fun δ K' hK' => ?_)⟩
        have E1 := Lib.hid (show Ext _ δ.wd from ⟨δ, rfl⟩)
        have HX1 := Lib.hid (HX.out.trans E1.out)
        (try have hq := E1.out.cell_some HS3.out)
        (try have HC1 := Lib.hid (And.intro (E1.out.cell_some HC.out.1) (And.intro (E1.out.frozen HC.out.1 HC.out.2.1) HC.out.2.2)))
        go_simp
        first
          | (refine (callsIn_wide.2 (HLF.out δ.wd (HX0.out.trans HX1.out))).mono ?_
             rintro e w3 ⟨v3, rfl, o3, x3⟩
             refine ⟨_, rfl, x3.belB HX1.out.bel.size, hK' _ _ ?_⟩
             obtain ⟨Al, nl, cl, rfl, _, hrl, hnl⟩ := o3.isI.open_
             obtain rfl : n = nl := by rw [← hrl.len, liftL_len, HL1.out]
             obtain ⟨bl, ol, rfl, _, hcl⟩ := hrl.at_ p hp
             rw [HLL.out] at hcl
             have HS3 := Lib.hid hcl
             (try have HC := Lib.hid (And.intro (x3.cell_some HC1.out.1) (And.intro (x3.frozen HC1.out.1 HC1.out.2.1) HC1.out.2.2)))
             have HX := Lib.hid (HX1.out.trans x3)
             clear hcl hrl o3 x3 hK')
          | (refine (callsIn_wide.2 (HTO.out δ.wd (HX0.out.trans HX1.out))).mono ?_
             rintro e w3 ⟨rfl, x3⟩
             refine ⟨_, rfl, x3.belB HX1.out.bel.size, hK' _ _ ?_⟩
             (try have HC := Lib.hid (And.intro (x3.cell_some HC1.out.1) (And.intro (x3.frozen HC1.out.1 HC1.out.2.1) HC1.out.2.2)))
             have HX := Lib.hid (HX1.out.trans x3)
             clear x3 hK')
          | (refine ⟨Below.refl _ _, hK' _ _ ?_⟩
             (try have HC := HC1)
             (try have HS3 := Lib.hid hq)
             have HX := HX1
             clear hK')
          | (refine ⟨((Below.refl _ _).alloc HX1.out.bel.size _), hK' _ _ ?_⟩
             have HC := Lib.hid (And.intro (cell_new0 δ.wd (.int .u64 0) 67) (And.intro (show (δ.wd.alloc (.cells #[.int .u64 0] 67)).frozen? ⟨δ.wd.heap.size, 0, none⟩ = false by go_simp) HX1.out.bel.size))
             (try have HS3 := Lib.hid (((Ext.refl δ.wd).alloc (.cells #[.int .u64 0] 67)).cell_some hq))
             have HX := Lib.hid (HX1.out.alloc (.cells #[.int .u64 0] 67))
             clear hK'))))
    all_goals (
      refine ⟨by decide +kernel, fun w4 x4 => ?_⟩
      have k4 := x4.cell_some HC.out.1
      have k5 := x4.frozen HC.out.1 HC.out.2.1
      have HX4 := Lib.hid (HX.out.trans x4)
      have HLE := Lib.hid HC.out.2.2
      clear x4
      simp only [List.drop_succ_cons, List.drop_zero]
      gi_wp2)
    all_goals first | exact And.intro (HX4.out.below ((Below.refl W0.heap.size _).setCell HLE.out _) (Nat.le_refl _)) HLE.out | exact HX4.out.below ((Below.refl W0.heap.size _).setCell HLE.out _) (Nat.le_refl _)
  case later =>
    rintro _ _ W1 ⟨rfl, X1, bb, hbb, hcb, u0, u1, u2, u6, u7, u8, u10, u11, u12, u13, u14, u15, u16, u17, u18, u19, u20, u21, u22, u23, u24, u25, u26, u27, u28, u29, u30, u31, u32, u33, u34, u35, rfl⟩
    refine hK _ _ ?_
    clear hK K
    have d0 := X1.cell_some b0
    have d1 := X1.cell_some b1
    have d2 := X1.cell_some b2
    have HX1 := Lib.hid X1
    have HBB := Lib.hid hbb
    have HSS := Lib.hid X1.bel.size
    clear hbb X1 b0 b1 b2 c0 c1 c2
    have c0 := cell_lt d0
    have c1 := cell_lt d1
    have c2 := cell_lt d2
    have c3 := cell_lt hcb
    gi_wp2_with (refine ⟨trivial, ?_⟩; gi_at_call 85; refine (offsets_in Fence.wide 2 trivial rfl _ _ _ _).mono ?_; rintro e w' ⟨rfl, rfl⟩)
    refine lay_in (fun W => Ext W1 W ∧ W.heap.size = W1.heap.size + 2 ∧ W.cell? ⟨W1.heap.size, 0, none⟩ = some (.slice none 0 0) ∧ W.frozen? ⟨W1.heap.size, 0, none⟩ = false ∧ W.cell? ⟨W1.heap.size + 1, 0, none⟩ = some (.slice (some ⟨br, or', none⟩) m c')) ⟨by (repeat' (first | with_reducible exact Ext.refl _ | with_reducible apply Ext.alloc | with_reducible apply Ext.drew | with_reducible apply Ext.drewN | with_reducible refine Ext.setCell ?_ ?_ _ | with_reducible apply Ext.step | with_reducible assumption | with_reducible exact Nat.le_refl _ | (simp; done) | (simp; omega))), by simp, by go_cell, by go_simp, by go_cell⟩ ?_
    rintro W2 ⟨X2, hs2, e10, g10, e14⟩
    have a0 := X2.cell_some d0
    have a1 := X2.cell_some d1
    have a2 := X2.cell_some d2
    have a3 := X2.cell_some hcb
    clear d0 d1 d2 hcb
    have hw2 : w.heap.size ≤ W1.heap.size := (HX0.out.trans HX1.out).bel.size
    have hcs : ∀ j, j < m → W2.cell? ⟨br, or' + j, none⟩ = some (.int .i64 (ys[j]?.getD 0)) := fun j hj => by
      obtain ⟨_, _, he, _, hc⟩ := (HS.out.ext ((HX0.out.trans HX1.out).trans X2)).at_ j hj
      cases he
      exact hc
    have HX2 := Lib.hid (((HX0.out.trans HX1.out).trans X2))
    have hbrs : br < W1.heap.size := by omega
    refine wpIn_rangeFunc_ownG rfl (by decide) (gf := 100) (lb := #[.pointer (some ⟨W1.heap.size + 1, 0, none⟩)]) rfl trivial (enters_of Try.func100 (by kernel_rfl) rfl)
      (offsetsK_stops Fence.wide 2 trivial rfl (by decide) (W1.heap.size + 1) br or' m c' ys (by omega) (CellsLow W2.heap.size W1.heap.size) (CellsLow.refl _ _) CellsLow.trans (fun h hc => h _ _ _ (by omega) (by omega) hc) (fun h hc => h _ _ _ (by omega) (by omega) hc) W2 (by omega) (by omega) e14 hcs)
      CellsLow.trans (fun _ _ _ _ _ h1 h2 _ => CellsLow.put h1 h2) (Below.refl _ _) (fun _ => rfl)
      (fun pre W => ∃ sv, W.cell? ⟨W1.heap.size, 0, none⟩ = some sv ∧ W.frozen? ⟨W1.heap.size, 0, none⟩ = false ∧ OwnI W2.heap.size W sv (cTo n m p tb pre) ∧ ButC [W1.heap.size] W2 W)
      (fun _ _ _ => False)
      (fun s A B row hs hg hr => ?own)
      (fun _ _ _ _ _ hs _ _ => hs)
      ⟨_, e10, g10, OwnI.nil _ _, ButC.refl _ _⟩
      (fun j => { tmps := #[u0, u1, u2, .pointer (some ⟨w.heap.size, 0, none⟩), .pointer (some ⟨w.heap.size + 1, 0, none⟩), .pointer (some ⟨w.heap.size + 1 + 1, 0, none⟩), u6, u7, u8, .pointer (some ⟨bb, 0, none⟩), .pointer (some ⟨W1.heap.size, 0, none⟩), .int .i64 (((min j m : Nat) : Int) - (m : Int) / 2), u12, u13, u14, u15, u16, u17, u18, u19, u20, u21, u22, u23, u24, u25, u26, u27, u28, u29, u30, u31, u32, u33, u34, u35, .slice (some ⟨br, or', none⟩) m c', .func (.func 100) #[] #[.pointer (some ⟨W1.heap.size + 1, 0, none⟩)], .int .i64 (((min j m : Nat) : Int) - (m : Int) / 2), .int .i64 (ys[j]?.getD 0), undef, undef, undef, undef, undef, undef, undef, undef, undef, undef, undef, undef, undef, undef, undef, undef, undef, undef, undef, undef, undef], defers := [] }) ?assign ?body ?done ?stop
    case own =>
      obtain ⟨sv, s1, s2, s3, s4⟩ := hs
      refine ⟨sv, cell_kept s1 hg (fun r e => (hr r e).2), (frozen_kept s1 hg (fun r e => (hr r e).2)).trans s2, World.ownsRow.kept s3 hg (own_apart s3 hr), ?_⟩
      cases row with
      | none => exact s4.ext (Ext.of ⟨hg.os, hg.tape, hg.output, hg.size, fun i hi => hg.block i hi (by simp)⟩)
      | some r => exact s4.grown hg (.inr (hr r rfl).1)
    case assign =>
      intro l x W K hK
      simp only [offEnc]
      gi_wp2
      exact hK
    case stop =>
      rintro D c pre W _ _ h _
      exact h.elim
    case body =>
      rintro l pre j W ⟨sv, s1, s2, s3, s4⟩ hlen
      have k0 := s4.cell a0 (by simp; omega)
      have k1 := s4.cell a1 (by simp; omega)
      have k2 := s4.cell a2 (by simp; omega)
      have k3 := s4.cell a3 (by simp; omega)
      obtain ⟨i, hi, hin⟩ := emod_nat ((p : Int) + (((min j m : Nat) : Int) - (m : Int) / 2)) (n := n) (by omega)
      have hmj : min j m ≤ m := Nat.min_le_right _ _
      have HAR := Lib.hid fun W => around_any ((p : Int) + (((min j m : Nat) : Int) - (m : Int) / 2)) n W (by omega) (by omega)
      rw [hi] at HAR
      have HCS := Lib.hid (cTo_snoc n m p tb pre j)
      rw [hi] at HCS
      clear hi
      have s5 : IntKind.i64.wrap ((m : Int) / 2) = (m : Int) / 2 := IntWalk.i64_in _ (by omega)
      have s6 : IntKind.i64.wrap ((min j m : Nat) : Int) = ((min j m : Nat) : Int) := IntWalk.i64_in _ (by omega)
      have HT2 := Lib.hid (Nat.testBit_eq_decide_div_mod_eq (x := tb) (i := min j m))
      generalize hq : min j m = q at *
      obtain ⟨fq, hfq⟩ : ∃ fq, tb / 2 ^ q = fq := ⟨_, rfl⟩
      rw [hfq] at HT2
      have hfl : fq < 2 ^ 40 := by rw [← hfq]; exact Nat.lt_of_le_of_lt (Nat.div_le_self _ _) HTL.out
      have s7 : (tb : Int) / 2 ^ q = (fq : Int) := by rw [← hfq, Int.natCast_ediv]; simp
      have s8 : bits .and .u64 (fq : Int) 1 = ((fq % 2 : Nat) : Int) := by
        have := u64_and_nat fq 1 (by omega) (by decide)
        rw [Nat.and_one_is_mod] at this
        exact this
      have s9 : IntKind.i64.wrap ((p : Int) + ((q : Int) - (m : Int) / 2)) = (p : Int) + ((q : Int) - (m : Int) / 2) := IntWalk.i64_in _ (by omega)
      have HSV := Lib.hid s3
      have HBUT := Lib.hid s4
      clear s3 s4 hq hfq hcs
      have HLC := Lib.hid (cTo_len n m p tb pre)
      have hl1 : W1.heap.size < W2.heap.size := by omega
      have hl2 : w.heap.size < W2.heap.size := by omega
      have hl3 : w.heap.size + 1 < W2.heap.size := by omega
      have hl4 : w.heap.size + 1 + 1 < W2.heap.size := by omega
      have hl5 : bb < W2.heap.size := by omega
      have HS2 := Lib.hid hs2
      have HWL := Lib.hid (show W2.heap.size ≤ W.heap.size from HBUT.out.size)
      clear hs2
      by_cases hb : fq % 2 = 1
      · have hg : ((fq : Int) % 2 == 1) = true := by simp; omega
        rw [decide_eq_true hb] at HT2
        clear hb
        gi_wp2
        refine wpIn_region_qmt (B := W2.heap.size) 8 [0, 1, 2, 3, 4, 5, 6] [7] HWL.out (by kernel_rfl) (by kernel_rfl) ?_
        repeat (refine wpQ_step (by rfl) (fun _ _ _ => trivial) (fun K hK => ?_); go_simp; refine hK _ ?_; clear hK K)
        refine wpQ_step (by rfl) (fun _ _ _ => trivial) (fun K hK => ?_)
        go_simp
        refine ⟨.int .i64 i, fun δ => (CallsIn.inRound l (callsIn_wide.2 (HAR.out _))).mono ?_, hK _ ?_⟩
        · rintro e _ ⟨rfl, rfl⟩
          exact ⟨rfl, Ext.refl _⟩
        clear hK K
        refine wpQ_nil ?_
        refine wpM_step (by rfl) (wanted_none rfl) (fun _ => rfl) (fun δ K hK => ?_)
        go_simp
        refine ⟨(Below.refl _ _).alloc (δ.le _ HWL.out) _, hK _ _ ?_⟩
        clear hK K
        refine wpM_nil ?_
        intro w3 x3
        have hs3 := δ.lt W1.heap.size (by have := HWL.out; omega)
        have XD : Ext W (δ.wd.alloc (.cells #[.int .i64 (i : Int)] 3)) := (show Ext W δ.wd from ⟨δ, rfl⟩).alloc _
        have HX3 := Lib.hid (XD.trans x3)
        have HC := Lib.hid (x3.cell_some (cell_new0 δ.wd (.int .i64 (i : Int)) 3))
        have HO := Lib.hid (HSV.out.ext HX3.out)
        have HB3 := Lib.hid (Nat.le_trans HWL.out HX3.out.bel.size)
        have HZ := Lib.hid (show (cTo n m p tb pre).length ≤ 1000000000 by have := HLC.out; omega)
        clear x3 XD hs3
        simp only [List.drop_succ_cons, List.drop_zero]
        gi_wp2_with (gi_at_builtin; refine app_one_in rfl _ _ rfl _ _ _ rfl rfl HC.out HO.out HB3.out HZ.out ?_; intro v' w4 o4 g4; obtain ⟨q1, q2⟩ := box_app HX3.out HSV.out g4 hl1 s1 s2; obtain ⟨A5, n5, c5, he5, _⟩ := o4.isI.open_; subst he5; have HO4 := Lib.hid o4; have HG4 := Lib.hid g4; clear o4 g4)
        obtain ⟨r1, r2⟩ := keeps_app (v := .slice A5 n5 c5) HX3.out HSV.out HG4.out hl1
        refine ⟨r1, r2, _, World.cell?_setCell_same _ _ _ q1, by rw [World.frozen?_setCell]; exact q2, ?_, ?_⟩
        · rw [HCS.out, HT2.out, if_pos rfl]
          exact own_setCell HO4.out hl1
        · exact ((HBUT.out.ext HX3.out).grownO HG4.out fun r e => .inr (World.ownsRow.lt HSV.out r e).1).setCell (by simp) _
      · have hg : ((fq : Int) % 2 == 1) = false := by simp; omega
        rw [decide_eq_false hb] at HT2
        clear hb
        gi_wp2
        exact ⟨KeepsFrom.refl _ _, CellsLow.refl _ _ _, sv, s1, s2, by rw [HCS.out, HT2.out, if_neg (by decide), List.append_nil]; exact HSV.out, HBUT.out⟩
    case done =>
      rintro D ys' W hD rfl ⟨sv, s1, s2, s3, s4⟩ hK
      have HSB := Lib.hid (show sortL (cTo n m p tb (List.range m)) = touchesL xs ys p by
        rw [← HL1.out, ← HL2.out, ← HTB.out, ← HLL.out, touchesL]
        exact sort_touches HF.out)
      have HNE := Lib.hid (show cTo n m p tb (List.range m) ≠ [] by
        rw [← HL1.out, ← HL2.out, ← HTB.out, ← HLL.out]
        exact cTo_ne HF.out (by rw [HL1.out]; exact hp))
      have HLE := Lib.hid (show (cTo n m p tb (List.range m)).length ≤ 1000000 by have := cTo_len n m p tb (List.range m); rw [List.length_range] at this; omega)
      obtain ⟨A5, n5, c5, he5, _⟩ := s3.isI.open_
      subst he5
      have HSV := Lib.hid s3
      have HBUT := Lib.hid s4
      have HDK := Lib.hid hK
      have hl1 : W1.heap.size < W2.heap.size := by omega
      clear s3 s4 hK hcs hs2
      gi_wp2_with (refine ⟨trivial, ?_⟩; gi_at_call 86; refine (callsIn_wide.2 (sort_any _ _ _ HSV.out HNE.out HLE.out)).mono ?_; rintro e W5 ⟨rfl, o5, g5⟩; obtain ⟨q1, q2⟩ := box_app (Ext.refl W) HSV.out g5 hl1 s1 s2; have HO5 := Lib.hid o5; have HG5 := Lib.hid g5; clear o5 g5)
      have HXF := Lib.hid (show Ext w W5 from by
        have h1 : Ext w W2 := HX2.out
        have h2 : ButC [W1.heap.size] W2 W5 := HBUT.out.grownO HG5.out fun r e => .inr (World.ownsRow.lt HSV.out r e).1
        exact .of (h1.bel.trans (h2.below (by simp; omega) h1.bel.size)))
      refine leaves_marks [D] W5 (by simp) (fun D' h => ?_) (fun W' hW => ⟨_, results_tmp2 rfl _ _ _, _, rfl, ?_, ?_⟩)
      · rw [List.mem_singleton.1 h]
        have hlt := (Array.getElem?_eq_some_iff.1 HDK.out).1
        exact (HG5.out.block D hlt (own_not HSV.out HDK.out rfl)).trans HDK.out
      · have HO6 := (show OwnI w.heap.size W5 (.slice A5 n5 c5) (touchesL xs ys p) from by rw [← HSB.out]; exact HO5.out.mono HX2.out.bel.size)
        refine ⟨HO6.1, ?_⟩
        rcases HO6.2 with hn | ⟨g, cap, cur, hv, hb, hh, rest⟩
        · exact .inl hn
        · refine .inr ⟨g, cap, cur, hv, hb, (hW.block g fun hg => ?_).trans hh, rest⟩
          rw [List.mem_singleton.1 hg] at hh
          have hlt := (Array.getElem?_eq_some_iff.1 HDK.out).1
          rw [(HG5.out.block D hlt (own_not HSV.out HDK.out rfl)).trans HDK.out] at hh
          cases hh
      · have hb := HXF.out.bel
        exact .of ⟨hW.os.trans hb.os, hW.tape.trans hb.tape, hW.output.trans hb.output, by rw [hW.size]; exact hb.size, fun i hi => (hW.block i fun hg => by have := List.mem_singleton.1 hg; omega).trans (hb.block i hi)⟩

set_option maxRecDepth 100000 in
set_option maxHeartbeats 1000000 in
theorem Contacts_any (u v : Value) (xs ys : List Int) (p : Int) (w : World) (hu : IsI w u xs) (hv : IsI w v ys) :
    Calls Try.prog 53 #[u, v, .int .i64 p] w (RetOE w (conL xs ys p) (conEr xs ys p)) := by
  by_cases hb : bothE xs ys = 0
  · by_cases hp : 0 ≤ p ∧ p < xs.length
    · obtain ⟨k, rfl⟩ : ∃ k : Nat, p = k := ⟨p.toNat, by omega⟩
      have HE := show conEr xs ys k = 0 by rw [conEr, if_pos hb, if_pos hp]
      have HL := show conL xs ys k = touchesL xs ys k by rw [conL, if_pos HE]; rfl
      rw [HE, HL]
      exact contacts_good u v xs ys k w hu hv (fine_iff.1 hb) (by omega)
    · have HE := Lib.hid (show conEr xs ys p = 2 by rw [conEr, if_pos hb, if_neg hp])
      have HL := Lib.hid (show conL xs ys p = [] by rw [conL, HE.out]; rfl)
      have HB := Lib.hid fun W (x : Ext w W) => both_zero hb (hu.ext x) (hv.ext x)
      obtain ⟨A, n, c, rfl, hc0, hr, hn⟩ := hu.open_
      obtain ⟨A', m, c', rfl, hd0, hs, hm⟩ := hv.open_
      rw [hr.len] at hp
      have hd : (decide (p < 0) || decide ((n : Int) ≤ p)) = true := by simp; omega
      clear hr hs hc0 hd0 hu hv hb
      go_enter Try.func53, Try.ntmps53
      go_wp2_with fail
      refine (HB.out _ (by (repeat' (first | with_reducible exact Ext.refl _ | with_reducible apply Ext.alloc | with_reducible apply Ext.drew | with_reducible apply Ext.drewN | with_reducible refine Ext.setCell ?_ ?_ _ | with_reducible apply Ext.step | with_reducible assumption | with_reducible exact Nat.le_refl _ | (simp; done) | (simp; omega))))).mono ?_
      rintro e _ ⟨rfl, rfl⟩
      go_wp2_with fail
      all_goals go_ret2
      all_goals exact ⟨_, by rw [HE.out] <;> rfl, by rw [HL.out]; exact OwnI.nil _ _, by (repeat' (first | with_reducible exact Ext.refl _ | with_reducible apply Ext.alloc | with_reducible apply Ext.drew | with_reducible apply Ext.drewN | with_reducible refine Ext.setCell ?_ ?_ _ | with_reducible apply Ext.step | with_reducible assumption | with_reducible exact Nat.le_refl _ | (simp; done) | (simp; omega)))⟩
  · have HE := Lib.hid (show conEr xs ys p = bothE xs ys by rw [conEr, if_neg hb])
    have HL := Lib.hid (show conL xs ys p = [] by rw [conL, if_neg (by rw [HE.out]; exact hb)])
    have HB := Lib.hid fun W (x : Ext w W) => both_any u v xs ys W (hu.ext x) (hv.ext x)
    obtain ⟨A, n, c, rfl, hc0, hr, hn⟩ := hu.open_
    obtain ⟨A', m, c', rfl, hd0, hs, hm⟩ := hv.open_
    have hbb : (bothE xs ys != 0) = true := by simpa using hb
    generalize bothE xs ys = er at *
    clear hr hs hc0 hd0 hu hv hb
    go_enter Try.func53, Try.ntmps53
    go_wp2_with fail
    refine (HB.out _ (by (repeat' (first | with_reducible exact Ext.refl _ | with_reducible apply Ext.alloc | with_reducible apply Ext.drew | with_reducible apply Ext.drewN | with_reducible refine Ext.setCell ?_ ?_ _ | with_reducible apply Ext.step | with_reducible assumption | with_reducible exact Nat.le_refl _ | (simp; done) | (simp; omega))))).mono ?_
    rintro e _ ⟨rfl, rfl⟩
    go_wp2_with fail
    go_ret2
    exact ⟨_, by rw [HE.out] <;> rfl, by rw [HL.out]; exact OwnI.nil _ _, by (repeat' (first | with_reducible exact Ext.refl _ | with_reducible apply Ext.alloc | with_reducible apply Ext.drew | with_reducible apply Ext.drewN | with_reducible refine Ext.setCell ?_ ?_ _ | with_reducible apply Ext.step | with_reducible assumption | with_reducible exact Nat.le_refl _ | (simp; done) | (simp; omega)))⟩
end Go.Proofs.Ytaaceadcnnfngaa
