/- rosette.Needed. Condition: slices read as lists. -/
import Derived.Test.YtaaceadcnnfngaaRCon
import Derived.Test.YtaaceadcnnfngaaRAlive
import Derived.Test.YtaaceadcnnfngaaRMul
namespace Go.Proofs.Ytaaceadcnnfngaa
open Go.RowKit Go.Shelf Go.Lib

attribute [local go_sem] Oper.semAt_some

theorem boolInfo : (Try.prog.info? 4).map (fun i => (i.zero, i.size, i.bytes)) = some (some (.bool false), 1, 1) := by kernel_rfl
/-- Booleans in a block of the call's own: for each step whether it is alone. -/
structure Bools (w : World) (b n : Nat) (f : Nat → Bool) : Prop where
  blk : w.heap[b]? = some (.cells ((List.range n).map fun q => Value.bool (f q)).toArray 4 (0, 0))
theorem Bools.cell {w : World} {b n q : Nat} {f : Nat → Bool} (h : Bools w b n f) (hq : q < n) : w.cell? ⟨b, q, none⟩ = some (.bool (f q)) := by
  rw [cell_of_row w b q _ _ _ h.blk]
  simp [hq]
theorem Bools.frozen {w : World} {b n : Nat} {f : Nat → Bool} (h : Bools w b n f) (q : Nat) : w.frozen? ⟨b, q, none⟩ = false := frozen_of_row w b q _ _ h.blk
theorem Bools.set {w : World} {b n q : Nat} {f g : Nat → Bool} (h : Bools w b n f) (hg : ∀ i, i < n → g i = if i = q then true else f i) : Bools (w.setCell ⟨b, q, none⟩ (.bool true)) b n g := by
  constructor
  rw [heap_setCell_same w b q _ _ _ h.blk]
  congr 2
  apply Array.ext
  · simp
  · intro i h1 h2
    have hi : i < n := by simpa using h1
    rw [Array.getElem_setIfInBounds (by simpa using hi)]
    simp only [List.getElem_toArray, List.getElem_map, List.getElem_range, hg i hi]
    split
    · rename_i he; subst he; simp
    · rename_i he; rw [if_neg (fun e => he e.symm)]
theorem Bools.congr {w : World} {b n : Nat} {f g : Nat → Bool} (h : Bools w b n f) (hg : ∀ i, i < n → g i = f i) : Bools w b n g := by
  constructor
  rw [h.blk]
  congr 2
  refine congrArg List.toArray (List.map_congr_left fun q hq => ?_)
  rw [hg q (List.mem_range.1 hq)]

/-- The step is the only one touched, by one of these offsets. -/
def hitB (n m p tb : Nat) (pre : List Nat) (q : Nat) : Bool := pre.any fun j => (tb == 2 ^ min j m) && decide (((p : Int) + (((min j m : Nat) : Int) - (m : Int) / 2)) % (n : Int) = q)
theorem hitB_snoc (n m p tb : Nat) (pre : List Nat) (j q : Nat) : hitB n m p tb (pre ++ [j]) q = (hitB n m p tb pre q || ((tb == 2 ^ min j m) && decide (((p : Int) + (((min j m : Nat) : Int) - (m : Int) / 2)) % (n : Int) = q))) := by simp [hitB]
theorem hitB_range {xs ys : List Int} (hf : Fine xs ys) (p q : Nat) : hitB xs.length ys.length p (touchB xs ys p ((liftL xs ys)[p]?.getD 0)) (List.range ys.length) q = aloneB xs ys p q := by
  unfold hitB aloneB
  rw [Bool.eq_iff_iff]
  simp only [List.any_eq_true, List.mem_range, Bool.and_eq_true, beq_iff_eq, decide_eq_true_eq]
  refine exists_congr fun j => and_congr_right fun hj => ?_
  rw [Nat.min_eq_left (by omega), at_, ← plc_cast hf.n1]
  constructor
  · rintro ⟨h1, h2⟩; exact ⟨h1, by omega⟩
  · rintro ⟨h1, h2⟩; exact ⟨h1, by omega⟩

/-- The frame at the head of the round over the steps. -/
def NeeAt (Al : Option Addr) (nl cl bf of n c br or' m c' B B8 : Nat) (k : Nat) (Ds : List Nat) (a : Act) : Prop :=
  ∃ u9 u10 u11 u12 u13 u14 u15 u16 u17 u18 u19 u20 u21 u22 u23 u24 u25 u26 u30 u31 u32 u33 u34 u35 u36 u37 u38 u39 u40 u41 u42 u43 u44 u45 u46 u47 u48 u49 u50 u51 u52 u53 u54 u55 u56 u57 u58 u59 u60 u61 u62 u63 u64 u65 u66 u67 u68 u69 u70 u71 u72 u73 u74 u75 u76 u77 u78 u79 u80 u81 : Value, a = { tmps := #[.slice (some ⟨bf, of, none⟩) n c, .slice (some ⟨br, or', none⟩) m c', .pointer (some ⟨B, 0, none⟩), .pointer (some ⟨B + 1, 0, none⟩), .slice none 0 0, .int .i64 0, .slice Al nl cl, .int .i64 0, .pointer (some ⟨B8, 0, none⟩), u9, u10, u11, u12, u13, u14, u15, u16, u17, u18, u19, u20, u21, u22, u23, u24, u25, u26, .slice (some ⟨bf, of, none⟩) n c, .int .i64 n, .int .i64 k, u30, u31, u32, u33, u34, u35, u36, u37, u38, u39, u40, u41, u42, u43, u44, u45, u46, u47, u48, u49, u50, u51, u52, u53, u54, u55, u56, u57, u58, u59, u60, u61, u62, u63, u64, u65, u66, u67, u68, u69, u70, u71, u72, u73, u74, u75, u76, u77, u78, u79, u80, u81], defers := marksOf Ds }

theorem nee_end {K bA n i : Nat} {Wb W w3 : World} {f g : Nat → Bool} (x : Ext W w3) (h : Bools W bA n f) (hg : Wb.grownBy W (some bA)) (hK : bA < K) (e : ∀ q, q < n → g q = if q = i then true else f q) :
    KeepsFrom K W (w3.setCell ⟨bA, i, none⟩ (.bool true)) ∧ CellsBut bA W (w3.setCell ⟨bA, i, none⟩ (.bool true)) ∧ Bools (w3.setCell ⟨bA, i, none⟩ (.bool true)) bA n g ∧ Wb.grownBy (w3.setCell ⟨bA, i, none⟩ (.bool true)) (some bA) := by
  have hG : W.grownBy (w3.setCell ⟨bA, i, none⟩ (.bool true)) (some bA) :=
    ⟨x.bel.os, x.bel.tape, x.bel.output, by simpa using x.bel.size, fun k hk hi => (heap_setCell_other w3 ⟨bA, i, none⟩ k _ (fun e => hi (by simp [e]))).trans (x.bel.block k hk)⟩
  refine ⟨KeepsFrom.of_grownBy hG (fun j e => by cases e; exact hK), CellsBut.grown hG, ?_, ⟨hG.os.trans hg.os, hG.tape.trans hg.tape, hG.output.trans hg.output, Nat.le_trans hg.size hG.size, fun i hi hne => (hG.block i (Nat.lt_of_lt_of_le hi hg.size) hne).trans (hg.block i hi hne)⟩⟩
  exact Bools.set (f := f) ⟨(x.bel.block bA (Array.getElem?_eq_some_iff.1 h.blk).1).trans h.blk⟩ e
theorem nee_keep {K bA n : Nat} {Wb W w3 : World} {f g : Nat → Bool} (x : Ext W w3) (h : Bools W bA n f) (hg : Wb.grownBy W (some bA)) (e : ∀ q, q < n → g q = f q) :
    KeepsFrom K W w3 ∧ CellsBut bA W w3 ∧ Bools w3 bA n g ∧ Wb.grownBy w3 (some bA) := by
  have hG : W.grownBy w3 none := x.grow none
  refine ⟨KeepsFrom.of_grownBy hG (fun j e => by cases e), fun b o v _ hc => x.cell_some hc, ?_, ⟨hG.os.trans hg.os, hG.tape.trans hg.tape, hG.output.trans hg.output, Nat.le_trans hg.size hG.size, fun i hi hne => (hG.block i (Nat.lt_of_lt_of_le hi hg.size) (by simp)).trans (hg.block i hi hne)⟩⟩
  exact Bools.congr (f := f) ⟨(x.bel.block bA (Array.getElem?_eq_some_iff.1 h.blk).1).trans h.blk⟩ e

set_option maxRecDepth 100000 in
set_option maxHeartbeats 4000000 in
theorem needed_good (u v : Value) (xs ys : List Int) (w : World) (hu : IsI w u xs) (hv : IsI w v ys) (hf : Fine xs ys) :
    Calls Try.prog 55 #[u, v] w (RetOE w (needTo xs ys xs.length) 0) := by
  have HF := Lib.hid hf
  have f1 := hf.lo
  have f2 := hf.hi
  have f4 := hf.le31
  have f5 := hf.odd
  have HU := Lib.hid hu
  have HV := Lib.hid hv
  have HB := Lib.hid fun W (x : Ext w W) => Lift_val (fine_iff.2 hf) rfl (hu.ext x) (hv.ext x)
  obtain ⟨A, n, c, rfl, hc0, hr, hn⟩ := hu.open_
  obtain ⟨A', m, c', rfl, hd0, hs, hm⟩ := hv.open_
  have HL1 := Lib.hid hr.len
  have HL2 := Lib.hid hs.len
  rw [HL1.out] at f1 f2
  rw [HL2.out] at f4 f5
  have hy1 : 1 ≤ m := by omega
  obtain ⟨bf, of, rfl, hbf, _⟩ := hr.at_ 0 (by omega)
  obtain ⟨br, or', rfl, hbr, _⟩ := hs.at_ 0 (by omega)
  have HR := Lib.hid hr
  have HS := Lib.hid hs
  clear hr hs hu hv hf f5
  refine (callsIn_wide (n := 3)).1 ?_
  refine callsIn_of_wp_marks Try.func55 rfl trivial ?_ rfl
  simp only [Try.ntmps55, List.size_toArray, List.length_cons, List.length_nil, Nat.reduceAdd, Nat.reduceSub, Array.replicate_succ, Array.replicate_zero, List.push_toArray, List.append_toArray, List.nil_append, List.cons_append]
  have hmk : ∀ w : World, (Instr.makeSlice 54 (.int .i64 (n : Int)) (.int .i64 (n : Int))).run Try.prog w = .ok (.slice (some ⟨w.heap.size, 0, none⟩) n n) (w.alloc (.cells (madeCells #[.bool false] n) 4)) := fun w =>
    run_make_row' (P := Try.prog) 54 4 (.bool false) 1 Try.underlying54 boolInfo rfl .i64 .i64 n (by omega) (by omega) w
  gi_wp2_with (refine ⟨trivial, ?_⟩; gi_at_call 19; refine (callsIn_wide.2 (HB.out _ (by (repeat' (first | with_reducible exact Ext.refl _ | with_reducible apply Ext.alloc | with_reducible apply Ext.drew | with_reducible apply Ext.drewN | with_reducible refine Ext.setCell ?_ ?_ _ | with_reducible apply Ext.step | with_reducible assumption | with_reducible exact Nat.le_refl _ | (simp; done) | (simp; omega)))))).mono ?_; rintro e W1 ⟨vl, rfl, ol, xl⟩; obtain ⟨Al, nl, cl, hel, _, hrl, _⟩ := ol.isI.open_; subst hel; have HOL := Lib.hid ol; have HRL := Lib.hid hrl; have b0 := xl.cell_some (b := w.heap.size) (o := 0) (v := .slice (some ⟨bf, of, none⟩) n c) (by go_cell); have b1 := xl.cell_some (b := w.heap.size + 1) (o := 0) (v := .slice (some ⟨br, or', none⟩) m c') (by go_cell); have c0 := cell_lt b0; have c1 := cell_lt b1; have HXL := Lib.hid (show Ext w W1 from Ext.trans (by (repeat' (first | with_reducible exact Ext.refl _ | with_reducible apply Ext.alloc | with_reducible apply Ext.drew | with_reducible apply Ext.drewN | with_reducible refine Ext.setCell ?_ ?_ _ | with_reducible apply Ext.step | with_reducible assumption | with_reducible exact Nat.le_refl _ | (simp; done) | (simp; omega)))) xl); have HSZ := Lib.hid (show w.heap.size + 2 ≤ W1.heap.size by have := xl.bel.size; simp at this; omega); clear ol hrl xl)
  refine lay_in (fun W => Ext W1 W ∧ W.heap.size = W1.heap.size + 2 ∧ Bools W W1.heap.size n (fun _ => false) ∧ W.cell? ⟨W1.heap.size + 1, 0, none⟩ = some (.slice (some ⟨W1.heap.size, 0, none⟩) n n)) ⟨by (repeat' (first | with_reducible exact Ext.refl _ | with_reducible apply Ext.alloc | with_reducible apply Ext.drew | with_reducible apply Ext.drewN | with_reducible refine Ext.setCell ?_ ?_ _ | with_reducible apply Ext.step | with_reducible assumption | with_reducible exact Nat.le_refl _ | (simp; done) | (simp; omega))), by simp, ⟨?_⟩, by go_cell⟩ ?_
  · rw [madeCells_one]
    have h1 := heap_alloc_old (W1.alloc (.cells (List.replicate n (.bool false)).toArray 4)) (.cells #[.slice (some ⟨W1.heap.size, 0, none⟩) n n] 54) (r := W1.heap.size) (by simp)
    rw [h1, heap_alloc_new]
    simp [List.map_const']
  rintro W2 ⟨X2, hs2, hbo, b2⟩
  have HB1 := Lib.hid b0
  have HB2 := Lib.hid b1
  clear b0 b1
  refine wpIn_loop (fun a wr => ∃ (k : Nat) (Ds : List Nat), NeeAt Al nl cl bf of n c br or' m c' w.heap.size (W1.heap.size + 1) k Ds a ∧ k ≤ n ∧ Ext W1 wr ∧ W1.heap.size + 2 ≤ wr.heap.size ∧ Ds.Nodup ∧ (∀ D ∈ Ds, W1.heap.size + 2 ≤ D ∧ wr.heap[D]? = some (.deferred (some []))) ∧ Bools wr W1.heap.size n (aloneTo xs ys k) ∧ wr.cell? ⟨W1.heap.size + 1, 0, none⟩ = some (.slice (some ⟨W1.heap.size, 0, none⟩) n n))
    (fun a _ => n - (intOf (a.tmps.getD 29 undef)).toNat) ⟨0, [], ⟨_, _, _, _, _, _, _, _, _, _, _, _, _, _, _, _, _, _, _, _, _, _, _, _, _, _, _, _, _, _, _, _, _, _, _, _, _, _, _, _, _, _, _, _, _, _, _, _, _, _, _, _, _, _, _, _, _, _, _, _, _, _, _, _, _, _, _, _, _, _, rfl⟩, by omega, X2, by omega, List.nodup_nil, by simp, hbo.congr (fun _ _ => rfl), b2⟩ ?_
  rintro a wr ⟨k, Ds, ⟨u9, u10, u11, u12, u13, u14, u15, u16, u17, u18, u19, u20, u21, u22, u23, u24, u25, u26, u30, u31, u32, u33, u34, u35, u36, u37, u38, u39, u40, u41, u42, u43, u44, u45, u46, u47, u48, u49, u50, u51, u52, u53, u54, u55, u56, u57, u58, u59, u60, u61, u62, u63, u64, u65, u66, u67, u68, u69, u70, u71, u72, u73, u74, u75, u76, u77, u78, u79, u80, u81, rfl⟩, hk, hx, hxs, hnd, hDs, hbk, e8⟩
  clear X2 hs2 hbo b2
  have HBK := Lib.hid hbk
  have HXR := Lib.hid hx
  have HD := Lib.hid hDs
  have c8 := cell_lt e8
  clear hbk hDs
  by_cases hlt : k < n
  · have d0 := hx.cell_some HB1.out
    have d1 := hx.cell_some HB2.out
    have l0 := cell_lt d0
    have l1 := cell_lt d1
    obtain ⟨bl, ol, rfl, hbl, hcl⟩ := HRL.out.at_ k (by rw [← HRL.out.len, liftL_len, HL1.out]; exact hlt)
    have dl := hx.cell_some hcl
    have ll := cell_lt dl
    obtain rfl : n = nl := by rw [← HRL.out.len, liftL_len, HL1.out]
    obtain ⟨L, hL⟩ : ∃ L, (liftL xs ys)[k]?.getD 0 = L := ⟨_, rfl⟩
    rw [hL] at dl
    have HLL := Lib.hid hL
    clear hL hcl hx
    have HTO := Lib.hid fun W (x : Ext wr W) => touches_any _ _ xs ys k L W (HU.out.ext ((HXL.out.trans HXR.out).trans x)) (HV.out.ext ((HXL.out.trans HXR.out).trans x)) HF.out (by rw [HL1.out]; exact hlt)
    obtain ⟨tb, htb⟩ : ∃ tb, touchB xs ys k L = tb := ⟨_, rfl⟩
    have HTB := Lib.hid htb
    rw [htb] at HTO
    have HTL := Lib.hid (show tb < 2 ^ 40 from by rw [← htb]; exact Nat.lt_of_lt_of_le (touchB_lt _ _ _ _) (Nat.pow_le_pow_right (by decide) (by rw [HL2.out]; omega)))
    clear htb
    have hd : decide ((k : Int) < n) = true := by simp; omega
    gi_wp2
    refine lay_in (fun W => Ext wr W ∧ W.heap.size = wr.heap.size + 1 ∧ W.cell? ⟨wr.heap.size, 0, none⟩ = some (.int .i64 k)) ⟨by (repeat' (first | with_reducible exact Ext.refl _ | with_reducible apply Ext.alloc | with_reducible apply Ext.drew | with_reducible apply Ext.drewN | with_reducible refine Ext.setCell ?_ ?_ _ | with_reducible apply Ext.step | with_reducible assumption | with_reducible exact Nat.le_refl _ | (simp; done) | (simp; omega))), by simp, by go_cell⟩ ?_
    rintro W3 ⟨X3, hs3, p3⟩
    have q0 := X3.cell_some d0
    have q1 := X3.cell_some d1
    have q8 := X3.cell_some e8
    have ql := X3.cell_some dl
    have m0 := cell_lt q0
    have m1 := cell_lt q1
    have m8 := cell_lt q8
    have ml := cell_lt ql
    have m3 := cell_lt p3
    have HX3 := Lib.hid X3
    have HS3 := Lib.hid hs3
    clear hs3 X3 l0 l1 ll
    refine wpIn_region_qmt (B := W3.heap.size) 9 [0, 1, 2, 3, 4, 5, 6, 7] [8] (Nat.le_refl _) (by kernel_rfl) (by kernel_rfl) ?_
    repeat (refine wpQ_step (by rfl) (fun _ _ _ => trivial) (fun K hK => ?_); go_simp; refine hK _ ?_; clear hK K)
    refine wpQ_step (by rfl) (fun _ _ _ => trivial) (fun K hK => ?_)
    go_simp
    refine ⟨.int .u64 tb, fun δ => (callsIn_wide.2 (HTO.out _ (HX3.out.trans (.of δ.bel)))).mono ?_, hK _ ?_⟩
    · rintro e w' ⟨rfl, hx'⟩
      exact ⟨rfl, hx'⟩
    clear hK K
    refine wpQ_nil ?_
    refine wpM_step (by rfl) (wanted_none rfl) (fun _ => rfl) (fun δ K hK => ?_)
    go_simp
    refine ⟨(Below.refl _ _).alloc δ.bel.size _, hK _ _ ?_⟩
    clear hK K
    refine wpM_nil ?_
    intro w4 x4
    have hcb := x4.cell_some (cell_new0 δ.wd (.int .u64 0) 67)
    have hfb := x4.frozen (cell_new0 δ.wd (.int .u64 0) 67) (show (δ.wd.alloc (.cells #[.int .u64 0] 67)).frozen? ⟨δ.wd.heap.size, 0, none⟩ = false by go_simp)
    have HBL := Lib.hid (show W3.heap.size ≤ δ.wd.heap.size from δ.bel.size)
    have HX4 := Lib.hid (show Ext W3 w4 from ((show Ext W3 δ.wd from ⟨δ, rfl⟩).alloc _).trans x4)
    generalize δ.wd.heap.size = b10 at hcb hfb HBL ⊢
    clear x4 δ
    have r0 := HX4.out.cell_some q0
    have r1 := HX4.out.cell_some q1
    have r8 := HX4.out.cell_some q8
    have r3 := HX4.out.cell_some p3
    have c10 := cell_lt hcb
    clear q0 q1 q8 ql p3 m0 m1 m8 ml m3
    have m0 := cell_lt r0
    have m1 := cell_lt r1
    have m8 := cell_lt r8
    have m3 := cell_lt r3
    have hne0 : b10 ≠ w.heap.size := by have := HBL.out; have := HS3.out; omega
    have hne1 : b10 ≠ w.heap.size + 1 := by have := HBL.out; have := HS3.out; omega
    have hne2 : b10 ≠ wr.heap.size := by have := HBL.out; have := HS3.out; omega
    have hne3 : b10 ≠ W1.heap.size + 1 := by have := HBL.out; have := HS3.out; omega
    simp only [List.drop_succ_cons, List.drop_zero]
    gi_wp2_with (refine ⟨trivial, ?_⟩; gi_at_call 85; refine (offsets_in Fence.wide 2 trivial rfl _ _ _ _).mono ?_; rintro e w' ⟨rfl, rfl⟩)
    refine lay_in (fun W => Ext W3 W ∧ W.heap.size = w4.heap.size + 1 ∧ W.cell? ⟨b10, 0, none⟩ = some (.int .u64 tb) ∧ W.cell? ⟨w4.heap.size, 0, none⟩ = some (.slice (some ⟨br, or', none⟩) m c') ∧
      W.cell? ⟨w.heap.size, 0, none⟩ = some (.slice (some ⟨bf, of, none⟩) n c) ∧ W.cell? ⟨w.heap.size + 1, 0, none⟩ = some (.slice (some ⟨br, or', none⟩) m c') ∧ W.cell? ⟨W1.heap.size + 1, 0, none⟩ = some (.slice (some ⟨W1.heap.size, 0, none⟩) n n) ∧ W.cell? ⟨wr.heap.size, 0, none⟩ = some (.int .i64 k))
      ⟨(HX4.out.setCell HBL.out _).alloc _, by simp, by go_cell, by go_cell, by go_cell, by go_cell, by go_cell, by go_cell⟩ ?_
    rintro Wb ⟨X5, hs5, t10, t4, t0, t1, t8, t3⟩
    clear r0 r1 r8 r3 hcb hfb m0 m1 m8 m3 hne0 hne1 hne2 hne3 d0 d1 dl e8 c8
    have HXB := Lib.hid (show Ext W1 Wb from HXR.out.trans (HX3.out.trans X5))
    have HXRB := Lib.hid (show Ext wr Wb from HX3.out.trans X5)
    have HBB := Lib.hid (show Bools Wb W1.heap.size n (aloneTo xs ys k) from ⟨(HXRB.out.bel.block _ (Array.getElem?_eq_some_iff.1 HBK.out.blk).1).trans HBK.out.blk⟩)
    have z1 := HXB.out.bel.size
    have z2 := HX4.out.bel.size
    have z3 := HBL.out
    have z4 := HS3.out
    have z5 := HSZ.out
    have z6 := HXRB.out.bel.size
    have HMW := Lib.hid (And.intro z1 (And.intro z2 (And.intro z3 (And.intro z4 (And.intro z5 z6)))))
    have hcs : ∀ j, j < m → Wb.cell? ⟨br, or' + j, none⟩ = some (.int .i64 (ys[j]?.getD 0)) := fun j hj => by
      obtain ⟨_, _, he, _, hc⟩ := (HS.out.ext (HXL.out.trans HXB.out)).at_ j hj
      cases he
      exact hc
    refine wpIn_rangeFunc_ownG rfl (by decide) (gf := 100) (lb := #[.pointer (some ⟨w4.heap.size, 0, none⟩)]) rfl trivial (enters_of Try.func100 (by kernel_rfl) rfl)
      (offsets_stops Fence.wide 2 trivial rfl (by decide) w4.heap.size W1.heap.size br or' m c' ys (by omega) (by omega) (by omega) Wb (by omega) (by omega) t4 hcs)
      CellsBut.trans (fun _ _ _ _ _ h1 h2 _ => CellsBut.put h1 h2) (Below.refl _ _) (fun _ => rfl)
      (fun pre W => Bools W W1.heap.size n (fun q => aloneTo xs ys k q || hitB n m k tb pre q) ∧ Wb.grownBy W (some W1.heap.size))
      (fun _ _ _ => False)
      (fun s A B row hs hg hr => ⟨⟨(hg.block W1.heap.size (Array.getElem?_eq_some_iff.1 hs.1.blk).1 (fun e => by
          obtain ⟨_, o, ho, hc⟩ := hr _ e.symm
          rw [hs.1.blk] at ho
          cases ho
          cases hc)).trans hs.1.blk⟩, grow_other hs.2 hg (fun r e => (hr r e).1)⟩)
      (fun _ _ _ _ _ hs _ _ => hs)
      ⟨HBB.out.congr (fun q _ => by simp [hitB]), ⟨rfl, rfl, rfl, Nat.le_refl _, fun _ _ _ => rfl⟩⟩
      (fun j => { tmps := #[.slice (some ⟨bf, of, none⟩) n c, .slice (some ⟨br, or', none⟩) m c', .pointer (some ⟨w.heap.size, 0, none⟩), .pointer (some ⟨w.heap.size + 1, 0, none⟩), .slice none 0 0, .int .i64 0, .slice (some ⟨bl, ol, none⟩) n cl, .int .i64 0, .pointer (some ⟨W1.heap.size + 1, 0, none⟩), .pointer (some ⟨wr.heap.size, 0, none⟩), .pointer (some ⟨b10, 0, none⟩), .int .i64 (((min j m : Nat) : Int) - (m : Int) / 2), u12, u13, u14, u15, u16, u17, u18, u19, u20, u21, u22, u23, u24, u25, u26, .slice (some ⟨bf, of, none⟩) n c, .int .i64 n, .int .i64 k, .bool true, .int .i64 k, .slice (some ⟨bf, of, none⟩) n c, .slice (some ⟨br, or', none⟩) m c', .int .i64 k, .slice (some ⟨bl, ol, none⟩) n cl, .int .i64 k, .pointer (some ⟨bl, ol + k, none⟩), .int .i64 L, .int .u64 tb, .slice (some ⟨br, or', none⟩) m c', .func (.func 100) #[] #[.pointer (some ⟨w4.heap.size, 0, none⟩)], .int .i64 (((min j m : Nat) : Int) - (m : Int) / 2), .int .i64 (ys[j]?.getD 0), u44, u45, u46, u47, u48, u49, u50, u51, u52, u53, u54, u55, u56, u57, u58, u59, u60, u61, u62, u63, u64, u65, u66, u67, u68, u69, u70, u71, u72, u73, u74, u75, u76, u77, u78, u79, u80, u81], defers := [] }) ?assign ?body ?done ?stop
    case assign =>
      intro l x W K hK
      simp only [offEnc]
      gi_wp2
      exact hK
    case stop =>
      rintro D c pre W _ _ h _
      exact h.elim
    case body =>
      rintro l pre j W ⟨hbo, hg⟩ hlen
      have k0 := hg.cell t0 (by simp; omega)
      have k1 := hg.cell t1 (by simp; omega)
      have k8 := hg.cell t8 (by simp)
      have k3 := hg.cell t3 (by simp; omega)
      have k10 := hg.cell t10 (by simp; omega)
      have y0 := cell_lt k0
      have y1 := cell_lt k1
      have y8 := cell_lt k8
      have y3 := cell_lt k3
      clear t0 t1 t8 t3 t10 t4 hcs
      obtain ⟨i, hi, hin⟩ := emod_nat ((k : Int) + (((min j m : Nat) : Int) - (m : Int) / 2)) (n := n) (by omega)
      have hmj : min j m ≤ m := Nat.min_le_right _ _
      have HAR := Lib.hid fun W => around_any ((k : Int) + (((min j m : Nat) : Int) - (m : Int) / 2)) n W (by omega) (by omega)
      rw [hi] at HAR
      have hh := fun q => hitB_snoc n m k tb pre j q
      rw [hi] at hh
      clear hi
      have s5 : IntKind.i64.wrap ((m : Int) / 2) = (m : Int) / 2 := IntWalk.i64_in _ (by omega)
      have s6 : IntKind.i64.wrap ((min j m : Nat) : Int) = ((min j m : Nat) : Int) := IntWalk.i64_in _ (by omega)
      have s2 := shl_fact (q := min j m) (by omega)
      generalize hq : min j m = q at *
      generalize 2 ^ q = pq at *
      have s9 : IntKind.i64.wrap ((k : Int) + ((q : Int) - (m : Int) / 2)) = (k : Int) + ((q : Int) - (m : Int) / 2) := IntWalk.i64_in _ (by omega)
      have HH := Lib.hid hh
      have HBO := Lib.hid hbo
      have HG := Lib.hid hg
      have hcell := hbo.cell hin
      have hfroz := hbo.frozen i
      have HBlt := Lib.hid (show W1.heap.size < Wb.heap.size by omega)
      clear hq hh hbo hg hs5 z1 z2 z3 z4 z5 z6 hxs
      gi_wp2
      refine wpIn_region_quietR (by kernel_rfl) (by kernel_rfl) (by kernel_rfl) ?_
      repeat (gi_big_quiet_step (fail))
      refine wpQuietIn_nil ?_
      rintro _ ⟨nq, rfl⟩
      by_cases hb : tb = pq
      · have hgd : ((tb : Int) == (pq : Int)) = true := by simp; omega
        have hgn : (tb == pq) = true := by simpa using hb
        have HH2 := Lib.hid fun q' => (HH.out q').trans (by rw [hgn, Bool.true_and])
        clear hb hgn
        gi_wp2
        refine wpIn_region_qmt (B := (W.drewN nq).heap.size) 7 [0, 1, 2, 3, 4, 5, 6] [] (Nat.le_refl _) (by kernel_rfl) (by kernel_rfl) ?_
        repeat (refine wpQ_step (by rfl) (fun _ _ _ => trivial) (fun K hK => ?_); go_simp; refine hK _ ?_; clear hK K)
        refine wpQ_step (by rfl) (fun _ _ _ => trivial) (fun K hK => ?_)
        go_simp
        refine ⟨.int .i64 i, fun δ => (CallsIn.inRound l (callsIn_wide.2 (HAR.out _))).mono ?_, hK _ ?_⟩
        · rintro e _ ⟨rfl, rfl⟩
          exact ⟨rfl, Ext.refl _⟩
        clear hK K
        refine wpQ_nil ?_
        refine wpM_nil ?_
        intro w5 x5
        have HX5 := Lib.hid (show Ext W w5 from ((Ext.refl W).drewN nq).trans x5)
        have hc5 := HX5.out.cell_some hcell
        have hf5 := HX5.out.frozen hcell hfroz
        clear x5
        simp only [List.drop_succ_cons, List.drop_zero]
        gi_wp2
        exact nee_end HX5.out HBO.out HG.out HBlt.out fun q' _ => by
          rw [HH2.out q']
          by_cases he : q' = i
          · subst he; simp
          · have : ¬ (i : Int) = (q' : Int) := by omega
            simp [he, this]
      · have hgd : ((tb : Int) == (pq : Int)) = false := by simp; omega
        have hgn : (tb == pq) = false := by simpa using hb
        clear hb
        gi_wp2
        exact nee_keep ((Ext.refl W).drewN nq) HBO.out HG.out fun q' _ => by rw [HH.out q', hgn]; simp
    case done =>
      rintro D ys' W hD rfl ⟨hbo, hg⟩ hK
      have MW : ∀ D' ∈ Ds, W1.heap.size + 2 ≤ D' ∧ D' < wr.heap.size ∧ W.heap[D']? = some (.deferred (some [])) := fun D' h' => by
        obtain ⟨h1, h2⟩ := HD.out D' h'
        have h3 := (Array.getElem?_eq_some_iff.1 h2).1
        exact ⟨h1, h3, (hg.block D' (by omega) (fun e => by cases e; omega)).trans ((HXRB.out.bel.block D' h3).trans h2)⟩
      have HMD := Lib.hid MW
      have HXW := Lib.hid (show Ext W1 W from HXB.out.below ((Below.refl W1.heap.size Wb).grown hg z1 (fun r e => by cases e; exact Nat.le_refl _)) (Nat.le_refl _))
      have HBW := Lib.hid (show Bools W W1.heap.size n (aloneTo xs ys (k + 1)) from hbo.congr fun q _ => by
        rw [← HL1.out, ← HL2.out, ← HTB.out, ← HLL.out, hitB_range HF.out, aloneTo, aloneTo, List.range_succ, List.any_append]
        simp)
      have k8 := hg.cell t8 (by simp)
      have hDl := (Array.getElem?_eq_some_iff.1 hK).1
      have hsW := hg.size
      have HK := Lib.hid hK
      clear hbo hg hK MW t0 t1 t3 t10 t4 hcs
      gi_wp2
      refine ⟨⟨k + 1, D :: Ds, ⟨_, _, _, _, _, _, _, _, _, _, _, _, _, _, _, _, _, _, _, _, _, _, _, _, _, _, _, _, _, _, _, _, _, _, _, _, _, _, _, _, _, _, _, _, _, _, _, _, _, _, _, _, _, _, _, _, _, _, _, _, _, _, _, _, _, _, _, _, _, _, rfl⟩, by omega, HXW.out, by omega, List.nodup_cons.2 ⟨fun h => ?_, hnd⟩, fun D' h => ?_, HBW.out, k8⟩, ?_⟩
      · have := (HMD.out D h).2.1
        omega
      · rcases List.mem_cons.1 h with rfl | h
        · exact ⟨by omega, HK.out⟩
        · obtain ⟨h1, h2, h3⟩ := HMD.out D' h
          exact ⟨h1, h3⟩
      · simp [intOf]
        omega
  · obtain rfl : k = n := by omega
    have hd : decide ((k : Int) < k) = false := by simp
    have d0 := hx.cell_some HB1.out
    have l0 := cell_lt d0
    clear hx
    generalize wr = wq at *
    gi_wp2
    gi_loopw [63, 12, 13, 14] (fun i sv _ _ W => ∃ q : Nat, q ≤ k ∧ i = .int .i64 q ∧ OwnI wq.heap.size W sv (needTo xs ys q) ∧ Ext wq W) (fun i _ _ _ _ => k - (intOf i).toNat)
    case atStart => exact ⟨0, by omega, rfl, OwnI.nil _ _, Ext.refl _⟩
    case round =>
      obtain ⟨q, hq, rfl, hown, hxw⟩ := hrel
      by_cases hlt : q < k
      · have hdq : decide ((q : Int) < k) = true := by simp; omega
        have hbc := hxw.cell_some (HBK.out.cell hlt)
        have h0 := hxw.cell_some d0
        obtain ⟨_, _, he, _, hfc⟩ := (HR.out.ext ((HXL.out.trans HXR.out).trans hxw)).at_ q hlt
        cases he
        have HNB := Lib.hid (needB_alone HF.out q)
        rw [HL1.out] at HNB
        have HNS := Lib.hid (needTo_succ xs ys q)
        have HXW := Lib.hid hxw
        have HOW := Lib.hid hown
        have HZ := Lib.hid (show (needTo xs ys q).length ≤ 1000000000 by have := needTo_len xs ys q; omega)
        clear hown hxw
        cases ha : aloneTo xs ys k q
        · rw [ha] at hbc HNB
          clear ha
          gi_wp2
          go_roundw
          case rel => exact ⟨q + 1, by omega, by go_num, by rw [HNS.out, HNB.out, Bool.false_and, if_neg (by decide), List.append_nil]; exact HOW.out, HXW.out⟩
          case measure => simp [intOf]; omega
        · rw [ha] at hbc HNB
          clear ha
          by_cases hz : 0 < xs[q]?.getD 0
          · have hzd : decide (0 < xs[q]?.getD 0) = true := by simpa using hz
            rw [hzd] at HNB
            have HC := Lib.hid (cell_new0 wr (.int .i64 (q : Int)) 3)
            have HO := Lib.hid (HOW.out.ext ((Ext.refl wr).alloc (.cells #[.int .i64 (q : Int)] 3)))
            have HBQ := Lib.hid (show wq.heap.size ≤ (wr.alloc (.cells #[.int .i64 (q : Int)] 3)).heap.size from (HXW.out.alloc _).bel.size)
            gi_wp2_with (gi_at_builtin; refine app_one_in rfl _ _ rfl _ _ _ rfl rfl HC.out HO.out HBQ.out HZ.out ?_; intro v' w3 o3 g3)
            go_roundw
            case rel => exact ⟨q + 1, by omega, by go_num, by rw [HNS.out, HNB.out, if_pos (by decide)]; exact o3, (HXW.out.alloc _).below ((Below.refl wq.heap.size _).grown g3 HBQ.out fun r e => (World.ownsRow.lt HOW.out r e).1) (Nat.le_refl _)⟩
            case measure => simp [intOf]; omega
          · have hzd : decide (0 < xs[q]?.getD 0) = false := by simpa using hz
            rw [hzd] at HNB
            gi_wp2
            go_roundw
            case rel => exact ⟨q + 1, by omega, by go_num, by rw [HNS.out, HNB.out, Bool.and_false, if_neg (by decide), List.append_nil]; exact HOW.out, HXW.out⟩
            case measure => simp [intOf]; omega
      · obtain rfl : q = k := by omega
        have hdq : decide ((q : Int) < q) = false := by simp
        have HOW := Lib.hid hown
        have HXW := Lib.hid hxw
        clear hown hxw
        gi_wp2
        refine leaves_marks Ds wr hnd (fun D h => (HXW.out.bel.block D (Array.getElem?_eq_some_iff.1 (HD.out D h).2).1).trans (HD.out D h).2) (fun W' hW => ⟨_, results_tmp2 rfl _ _ _, _, rfl, ?_, ?_⟩)
        · rw [HL1.out]
          have hh := HXL.out.bel.size
          have hh2 := HXR.out.bel.size
          have HO6 := HOW.out.mono (show w.heap.size ≤ wq.heap.size by omega)
          refine ⟨HO6.1, ?_⟩
          rcases HOW.out.2 with hn | ⟨g, cap, cur, hv, hb, hh3, rest⟩
          · exact .inl hn
          · refine .inr ⟨g, cap, cur, hv, by omega, (hW.block g fun hg => ?_).trans hh3, rest⟩
            have := (Array.getElem?_eq_some_iff.1 (HD.out g hg).2).1
            omega
        · have hb := ((HXL.out.trans HXR.out).trans HXW.out).bel
          exact .of ⟨hW.os.trans hb.os, hW.tape.trans hb.tape, hW.output.trans hb.output, by rw [hW.size]; exact hb.size, fun i hi => (hW.block i fun hg => by have h1 := (HD.out i hg).1; have h2 := HSZ.out; omega).trans (hb.block i hi)⟩

set_option maxRecDepth 100000 in
set_option maxHeartbeats 1000000 in
theorem Needed_any (u v : Value) (xs ys : List Int) (w : World) (hu : IsI w u xs) (hv : IsI w v ys) :
    Calls Try.prog 55 #[u, v] w (RetOE w (needL xs ys) (bothE xs ys)) := by
  by_cases hb : bothE xs ys = 0
  · have HL := show needL xs ys = needTo xs ys xs.length by rw [needL, if_pos hb]
    rw [hb, HL]
    exact needed_good u v xs ys w hu hv (fine_iff.1 hb)
  · have HL := Lib.hid (show needL xs ys = [] by rw [needL, if_neg hb])
    have HB := Lib.hid fun W (x : Ext w W) => Lift_any u v xs ys W (hu.ext x) (hv.ext x)
    obtain ⟨A, n, c, rfl, hc0, hr, hn⟩ := hu.open_
    obtain ⟨A', m, c', rfl, hd0, hs, hm⟩ := hv.open_
    have hbb : (bothE xs ys != 0) = true := by simpa using hb
    generalize bothE xs ys = er at *
    clear hr hs hc0 hd0 hu hv hb
    go_enter Try.func55, Try.ntmps55
    go_wp2_with fail
    refine (HB.out _ (by (repeat' (first | with_reducible exact Ext.refl _ | with_reducible apply Ext.alloc | with_reducible apply Ext.drew | with_reducible apply Ext.drewN | with_reducible refine Ext.setCell ?_ ?_ _ | with_reducible apply Ext.step | with_reducible assumption | with_reducible exact Nat.le_refl _ | (simp; done) | (simp; omega))))).mono ?_
    rintro e w1 ⟨v1, rfl, o1, x1⟩
    obtain ⟨Al, nl, cl, he, _⟩ := o1.isI.open_
    subst he
    have HX1 := Lib.hid (show Ext w w1 from Ext.trans (by (repeat' (first | with_reducible exact Ext.refl _ | with_reducible apply Ext.alloc | with_reducible apply Ext.drew | with_reducible apply Ext.drewN | with_reducible refine Ext.setCell ?_ ?_ _ | with_reducible apply Ext.step | with_reducible assumption | with_reducible exact Nat.le_refl _ | (simp; done) | (simp; omega)))) x1)
    clear o1 x1
    go_wp2_with fail
    go_ret2
    exact ⟨_, by rfl, by rw [HL.out]; exact OwnI.nil _ _, HX1.out⟩
end Go.Proofs.Ytaaceadcnnfngaa
