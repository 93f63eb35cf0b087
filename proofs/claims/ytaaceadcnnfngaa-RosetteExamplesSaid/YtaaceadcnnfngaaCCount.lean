/- rosette.Count. Condition: slices read as lists. -/
import Derived.Test.YtaaceadcnnfngaaCRange
import Derived.Test.YtaaceadcnnfngaaRFind
import Derived.Test.YtaaceadcnnfngaaDraw
namespace Go.Proofs.Ytaaceadcnnfngaa
open Go.RowKit Go.ChangeMaps

/-- All blocks but those of D lie as they lay. -/
structure ButC (D : List Nat) (w w' : World) : Prop where
  os : w'.os = w.os
  tape : w'.tape = w.tape
  output : w'.output = w.output
  size : w.heap.size ≤ w'.heap.size
  block : ∀ i, i < w.heap.size → i ∉ D → w'.heap[i]? = w.heap[i]?
theorem ButC.refl (D : List Nat) (w : World) : ButC D w w := ⟨rfl, rfl, rfl, Nat.le_refl _, fun _ _ _ => rfl⟩
theorem ButC.ext {D : List Nat} {w a b : World} (h : ButC D w a) (x : Ext a b) : ButC D w b :=
  ⟨x.bel.os.trans h.os, x.bel.tape.trans h.tape, x.bel.output.trans h.output, Nat.le_trans h.size x.bel.size, fun i hi hd => (x.bel.block i (Nat.lt_of_lt_of_le hi h.size)).trans (h.block i hi hd)⟩
theorem ButC.grown {D : List Nat} {w a b : World} {r : Nat} (h : ButC D w a) (g : a.grownBy b (some r)) (hr : r ∈ D ∨ w.heap.size ≤ r) : ButC D w b :=
  ⟨g.os.trans h.os, g.tape.trans h.tape, g.output.trans h.output, Nat.le_trans h.size g.size, fun i hi hd => (g.block i (Nat.lt_of_lt_of_le hi h.size) (fun e => by
    simp only [Option.some.injEq] at e
    subst e
    rcases hr with hr | hr
    · exact hd hr
    · omega)).trans (h.block i hi hd)⟩
theorem ButC.cell {D : List Nat} {w a : World} (h : ButC D w a) {b o : Nat} {v : Value} (hc : w.cell? ⟨b, o, none⟩ = some v) (hd : b ∉ D) : a.cell? ⟨b, o, none⟩ = some v := by
  rw [← hc]
  have := h.block b (cell_lt hc) hd
  simp [World.cell?, this]
theorem ButC.below {D : List Nat} {B : Nat} {w a : World} (h : ButC D w a) (hD : ∀ d ∈ D, B ≤ d) (hB : B ≤ w.heap.size) : Below B w a :=
  ⟨h.os, h.tape, h.output, Nat.le_trans hB h.size |> fun _ => h.size, fun i hi => h.block i (by omega) (fun hd => by have := hD i hd; omega)⟩
theorem ButC.setCell {D : List Nat} {w a : World} (h : ButC D w a) {p : Addr} (hp : p.block ∈ D) (u : Value) : ButC D w (a.setCell p u) :=
  ⟨h.os, h.tape, h.output, by simpa using h.size, fun i hi hd => (heap_setCell_other a p i u (fun e => hd (by rw [e]; exact hp))).trans (h.block i hi hd)⟩
theorem ButC.setBlock {D : List Nat} {w a : World} (h : ButC D w a) {r : Nat} (hr : r ∈ D) (o : Obj) : ButC D w (setBlock a r o) :=
  ⟨h.os, h.tape, h.output, by show _ ≤ (a.heap.setIfInBounds r o).size; rw [Array.size_setIfInBounds]; exact h.size, fun i hi hd => by
    show (a.heap.setIfInBounds r o)[i]? = _
    rw [Array.getElem?_setIfInBounds_ne (fun e => hd (by rw [← e]; exact hr))]
    exact h.block i hi hd⟩
theorem setBlock_size (w : World) (r : Nat) (o : Obj) : (setBlock w r o).heap.size = w.heap.size := by
  show (w.heap.setIfInBounds r o).size = _
  rw [Array.size_setIfInBounds]
theorem setBlock_heap (w : World) (r i : Nat) (o : Obj) (h : r ≠ i) : (setBlock w r o).heap[i]? = w.heap[i]? := by
  show (w.heap.setIfInBounds r o)[i]? = _
  rw [Array.getElem?_setIfInBounds_ne h]
theorem setBlock_self (w : World) (r : Nat) (o : Obj) (h : r < w.heap.size) : (setBlock w r o).heap[r]? = some o := Array.getElem?_setIfInBounds_self_of_lt h
theorem setBlock_cell (w : World) (r b k : Nat) (o : Obj) (h : r ≠ b) : (setBlock w r o).cell? ⟨b, k, none⟩ = w.cell? ⟨b, k, none⟩ := by
  simp [World.cell?, setBlock_heap w r b o h]
theorem setBlock_ext {w a : World} (x : Ext w a) {r : Nat} (hr : w.heap.size ≤ r) (o : Obj) : Ext w (setBlock a r o) := by
  have hb := x.bel
  exact .of ⟨hb.os, hb.tape, hb.output, by rw [setBlock_size]; exact hb.size, fun i hi => (setBlock_heap a r i o (by omega)).trans (hb.block i hi)⟩

/-- At the head of a round over the steps. -/
structure CntAt (gs ls ys : List Int) (N M0 K : Nat) (W12 wr : World) (k Mw Mn : Nat) (es es2 : List ME) (ck ck2 : Nat) : Prop where
  mm : (Mw = M0 ∧ Mn = M0 + 1) ∨ (Mw = M0 + 1 ∧ Mn = M0)
  but : ButC [M0, M0 + 1, M0 + 1 + 1] W12 wr
  cx : wr.cell? ⟨M0 + 1 + 1, 0, none⟩ = some (.map (some Mn))
  fx : wr.frozen? ⟨M0 + 1 + 1, 0, none⟩ = false
  hw : wr.heap[Mw]? = some (.map (entriesOf es) ck)
  hn : wr.heap[Mn]? = some (.map (entriesOf es2) ck2)
  ok : MapOk K es ck
  sum : sumE (cntV gs ls ys (N - k) k) es % 1000000007 = cntV gs ls ys N 0 0 0 % 1000000007

/-- In a round over the windows. -/
structure InMid (M0 K : Nat) (W12 W : World) (Mw Mn r : Nat) (es es2 : List ME) (ck ck2 : Nat) (seen : Array Nat) : Prop where
  mm : (Mw = M0 ∧ Mn = M0 + 1) ∨ (Mw = M0 + 1 ∧ Mn = M0)
  h12 : M0 + 1 + 1 < W12.heap.size
  but : ButC [M0, M0 + 1, M0 + 1 + 1] W12 W
  cx : W.cell? ⟨M0 + 1 + 1, 0, none⟩ = some (.map (some Mn))
  fx : W.frozen? ⟨M0 + 1 + 1, 0, none⟩ = false
  rg : RangeAt W Mw r es ck seen
  hn : W.heap[Mn]? = some (.map (entriesOf es2) ck2)
  ok2 : MapOk K es2 ck2
  hr : W12.heap.size ≤ r

section
variable {M0 K : Nat} {W12 W W' : World} {Mw Mn r : Nat} {es es2 es3 : List ME} {ck ck2 ck3 : Nat} {seen seen' : Array Nat}
theorem Ext.heap_some (x : Ext W W') {i : Nat} {o : Obj} (h : W.heap[i]? = some o) : W'.heap[i]? = some o := (x.bel.block i (Array.getElem?_eq_some_iff.1 h).1).trans h
theorem grown_heap {row : Nat} (g : W.grownBy W' (some row)) {i : Nat} {o : Obj} (h : W.heap[i]? = some o) (hi : i ≠ row) : W'.heap[i]? = some o := (g.block i (Array.getElem?_eq_some_iff.1 h).1 (by simpa using hi)).trans h
theorem grown_frozen {row b k : Nat} {v : Value} (g : W.grownBy W' (some row)) (hc : W.cell? ⟨b, k, none⟩ = some v) (hb : b ≠ row) : W'.frozen? ⟨b, k, none⟩ = W.frozen? ⟨b, k, none⟩ := by
  have := g.block b (cell_lt hc) (by simpa using hb)
  simp [World.frozen?, this]
theorem InMid.ext (h : InMid M0 K W12 W Mw Mn r es es2 ck ck2 seen) (x : Ext W W') : InMid M0 K W12 W' Mw Mn r es es2 ck ck2 seen :=
  ⟨h.mm, h.h12, h.but.ext x, x.cell_some h.cx, x.frozen h.cx h.fx, ⟨x.heap_some h.rg.hr, x.heap_some h.rg.hb⟩, x.heap_some h.hn, h.ok2, h.hr⟩
theorem InMid.next (h : InMid M0 K W12 W Mw Mn r es es2 ck ck2 seen) (g : W.grownBy W' (some r)) (R' : RangeAt W' Mw r es ck seen') : InMid M0 K W12 W' Mw Mn r es es2 ck ck2 seen' := by
  have h1 := h.h12
  have h2 := h.hr
  refine ⟨h.mm, h.h12, h.but.grown g (.inr h.hr), g.cell h.cx (by simp; omega), (grown_frozen g h.cx (by omega)).trans h.fx, R', grown_heap g h.hn ?_, h.ok2, h.hr⟩
  rcases h.mm with ⟨_, e⟩ | ⟨_, e⟩ <;> omega
theorem InMid.add (h : InMid M0 K W12 W Mw Mn r es es2 ck ck2 seen) (g : W.grownBy W' (some Mn)) (hn : W'.heap[Mn]? = some (.map (entriesOf es3) ck3)) (hok : MapOk K es3 ck3) : InMid M0 K W12 W' Mw Mn r es es3 ck ck3 seen := by
  have h1 := h.h12
  have h2 := h.hr
  have h3 : Mn ≤ M0 + 1 := by rcases h.mm with ⟨_, e⟩ | ⟨_, e⟩ <;> omega
  have h4 : Mw ≠ Mn := by rcases h.mm with ⟨_, e⟩ | ⟨_, e⟩ <;> omega
  refine ⟨h.mm, h.h12, h.but.grown g (.inl ?_), g.cell h.cx (by simp; omega), (grown_frozen g h.cx (by omega)).trans h.fx, ⟨grown_heap g h.rg.hr (by omega), grown_heap g h.rg.hb h4⟩, hn, hok, h.hr⟩
  rcases h.mm with ⟨_, e⟩ | ⟨_, e⟩ <;> simp [e]
theorem InMid.cell (h : InMid M0 K W12 W Mw Mn r es es2 ck ck2 seen) {b o : Nat} {v : Value} (hc : W12.cell? ⟨b, o, none⟩ = some v) (hb : b < M0) : W.cell? ⟨b, o, none⟩ = some v := h.but.cell hc (by simp; omega)
end

theorem run_clearW {w : World} {M ck : Nat} {es : List ME} (ty : TypeId) (hM : w.heap[M]? = some (.map (entriesOf es) ck)) :
    (Builtin.clear_ #[70] ty #[.map (some M)]).run Try.prog w = .ok (.tuple #[]) (setBlock w M (.map (entriesOf []) ck)) := by
  have hg : (getObj M).run Try.prog w = .ok (.map (entriesOf es) ck) w := by simp [getObj, Sem.run, hM]
  have hset : ∀ o', (setObj M o').run Try.prog w = .ok () (setBlock w M o') := fun o' => by simp [setObj, Sem.run, hM, setBlock]
  simp [Builtin.clear_, Sem.run_bind, run_underlying underlyingM, hg, hset, entriesOf]

theorem InMid.start {gs ls ys : List Int} {N M0 K : Nat} {W12 wr WC W : World} {k Mw Mn r : Nat} {es es2 : List ME} {ck ck2 : Nat} (R : CntAt gs ls ys N M0 K W12 wr k Mw Mn es es2 ck ck2) (h12 : M0 + 1 + 1 < W12.heap.size)
    (hC : setBlock wr Mn (.map (entriesOf []) ck2) = WC) (x : Ext WC W) (hr : r = WC.heap.size) (g : RangeAt W Mw r es ck #[]) : InMid M0 K W12 W Mw Mn r es [] ck ck2 #[] := by
  subst hC
  have hMn : Mn ∈ [M0, M0 + 1, M0 + 1 + 1] := by rcases R.mm with ⟨_, h⟩ | ⟨_, h⟩ <;> simp [h]
  have hne : Mn ≠ M0 + 1 + 1 := by rcases R.mm with ⟨_, h⟩ | ⟨_, h⟩ <;> omega
  have hlt := (Array.getElem?_eq_some_iff.1 R.hn).1
  have hc : (setBlock wr Mn (.map (entriesOf []) ck2)).cell? ⟨M0 + 1 + 1, 0, none⟩ = some (.map (some Mn)) := by rw [setBlock_cell _ _ _ _ _ hne]; exact R.cx
  refine ⟨R.mm, h12, (R.but.setBlock hMn _).ext x, x.cell_some hc, ?_, g, ?_, MapOk.nil _ _, ?_⟩
  · refine x.frozen hc ?_
    rw [← R.fx]
    simp [World.frozen?, setBlock_heap wr Mn _ _ hne]
  · exact (x.bel.block Mn (by rw [setBlock_size]; exact hlt)).trans (setBlock_self _ _ _ hlt)
  · rw [hr, setBlock_size]; exact R.but.size

theorem InMid.swap {gs ls ys : List Int} {N M0 K k : Nat} {W12 W : World} {Mw Mn r : Nat} {es es3 : List ME} {ck ck3 : Nat} {seen : Array Nat} (h : InMid M0 K W12 W Mw Mn r es es3 ck ck3 seen)
    (hs : sumE (cntV gs ls ys (N - (k + 1)) (k + 1)) es3 % 1000000007 = cntV gs ls ys N 0 0 0 % 1000000007) : CntAt gs ls ys N M0 K W12 (W.setCell ⟨M0 + 1 + 1, 0, none⟩ (.map (some Mw))) (k + 1) Mn Mw es3 es ck3 ck := by
  have hne : M0 + 1 + 1 ≠ Mn ∧ M0 + 1 + 1 ≠ Mw := by rcases h.mm with ⟨e1, e2⟩ | ⟨e1, e2⟩ <;> omega
  refine ⟨by rcases h.mm with ⟨e1, e2⟩ | ⟨e1, e2⟩ <;> omega, h.but.setCell (by simp) _, World.cell?_setCell_same _ _ _ h.cx, by rw [World.frozen?_setCell]; exact h.fx, ?_, ?_, h.ok2, hs⟩
  · exact (heap_setCell_other W ⟨M0 + 1 + 1, 0, none⟩ Mn _ (fun e => hne.1 e.symm)).trans h.hn
  · exact (heap_setCell_other W ⟨M0 + 1 + 1, 0, none⟩ Mw _ (fun e => hne.2 e.symm)).trans h.rg.hb

theorem ext_iter {a b c : World} {r : Nat} (x : Ext a b) (g : b.grownBy c (some r)) (hr : a.heap.size ≤ r) : Ext a c :=
  x.below ((Below.refl a.heap.size b).grown g x.bel.size (fun j e => by cases e; exact hr)) (Nat.le_refl _)
theorem RangeAt.left {w : World} {M r : Nat} {es : List ME} {ck : Nat} {seen : Array Nat} (h : RangeAt w M r es ck seen) : w.rangeLeft M r = (leftOf (entriesOf es) seen).size := by
  unfold World.rangeLeft
  rw [h.hr, h.hb]
theorem cnt_low {gs ls ys : List Int} {f k ea eb : Nat} (hk : k < ls.length) : cntV gs ls ys (f + 1) k ea eb = cntA gs ls ys k 1 ea eb (cntV gs ls ys f (k + 1)) + gs[k]?.getD 0 * cntA gs ls ys k 0 ea eb (cntV gs ls ys f (k + 1)) := by
  rw [cntV, if_neg (by omega)]
theorem cnt_high {gs ls ys : List Int} {f k ea eb : Nat} (hk : ls.length ≤ k) : cntV gs ls ys (f + 1) k ea eb = cntA gs ls ys k (ea / 2 ^ (k - ls.length) % 2) ea eb (cntV gs ls ys f (k + 1)) := by
  rw [cntV, if_pos hk]
theorem sum_one {gs ls ys : List Int} {q h ea eb ck : Nat} {c V A : Int} {es : List ME} {G : Nat → Nat → Int} (hs : sumE G es % 1000000007 = V % 1000000007) (hA : A = cntA gs ls ys q h ea eb G) : sumE G (addE gs ls ys q h ea eb c ck es) % 1000000007 = (V + c * A) % 1000000007 := by
  rw [addE_sum, ← hA]
  exact mod_add_mod hs
theorem sum_two {gs ls ys : List Int} {q ea eb ck ck' : Nat} {v g V A1 A0 : Int} {es : List ME} {G : Nat → Nat → Int} (hs : sumE G es % 1000000007 = V % 1000000007) (h1 : A1 = cntA gs ls ys q 1 ea eb G) (h0 : A0 = cntA gs ls ys q 0 ea eb G) :
    sumE G (addE gs ls ys q 0 ea eb (v * g % 1000000007) ck' (addE gs ls ys q 1 ea eb v ck es)) % 1000000007 = (V + v * (A1 + g * A0)) % 1000000007 := by
  rw [sum_one (sum_one hs h1) h0, mod_mul_add]
  congr 1
  rw [Int.mul_add, Int.mul_assoc]
  omega

def countEr (xs ys : List Int) : Int := if bothE xs ys = 0 then (if 7 < ys.length then 4 else 0) else bothE xs ys
def countN (xs ys : List Int) : Int := if bothE xs ys = 0 ∧ ys.length ≤ 7 ∧ foundB xs ys = true then cntV (underL xs ys) xs ys (xs.length + (ys.length - 1)) 0 0 0 % 1000000007 else 0

set_option maxRecDepth 100000 in
set_option maxHeartbeats 4000000 in
theorem count_good (u v : Value) (ls ys : List Int) (w : World) (hu : IsI w u ls) (hv : IsI w v ys) (hg : bothE ls ys = 0) (h7 : ys.length ≤ 7) (hfd : foundB ls ys = true) :
    Calls Try.prog 45 #[u, v] w fun e w' => e = .returned (.tuple #[.int .i64 (cntV (underL ls ys) ls ys (ls.length + (ys.length - 1)) 0 0 0 % 1000000007), .int .i64 0]) ∧ Ext w w' := by
  have hf := fine_iff.1 hg
  have f1 := hf.lo
  have f2 := hf.hi
  have f3 := hf.odd
  have HF := Lib.hid hf
  have HU := Lib.hid hu
  have HV := Lib.hid hv
  have HB := Lib.hid fun W (x : Ext w W) => both_zero hg (hu.ext x) (hv.ext x)
  have HFI := Lib.hid fun W (x : Ext w W) => (show Calls Try.prog 43 #[u, v] W (RetOE W (underL ls ys) 0) by
    have := Find_any u v ls ys W (hu.ext x) (hv.ext x)
    rwa [findL, findEr, if_pos ⟨hg, hfd⟩, if_pos hg, if_pos hfd] at this)
  obtain ⟨A, n, c, rfl, hc0, hr, hn⟩ := hu.open_
  obtain ⟨A', m', c', rfl, hd0, hs, hm⟩ := hv.open_
  have HL1 := Lib.hid hr.len
  have HL2 := Lib.hid hs.len
  rw [HL1.out] at f1 f2
  rw [HL2.out] at f3 h7
  clear hu hv hg hf hfd hr hs hc0 hd0
  obtain ⟨m2, rfl⟩ : ∃ m2, m' = m2 + 1 := ⟨m' - 1, by omega⟩
  have hd7 : decide (7 < ((m2 : Int) + 1)) = false := by simp; omega
  go_enter Try.func45, Try.ntmps45
  go_wp2_with fail
  refine lay_calls (fun W => Ext w W ∧ W.cell? ⟨w.heap.size, 0, none⟩ = some (.slice A n c) ∧ W.cell? ⟨w.heap.size + 1, 0, none⟩ = some (.slice A' (m2 + 1) c')) ⟨by (repeat' (first | with_reducible exact Ext.refl _ | with_reducible apply Ext.alloc | with_reducible apply Ext.drew | with_reducible apply Ext.drewN | with_reducible refine Ext.setCell ?_ ?_ _ | with_reducible apply Ext.step | with_reducible assumption | with_reducible exact Nat.le_refl _ | (simp; done) | (simp; omega))), by go_cell, by go_cell⟩ ?_
  rintro W0 ⟨X0, b2, b3⟩
  have HX0 := Lib.hid X0
  refine (HB.out W0 X0).mono ?_
  rintro e _ ⟨rfl, rfl⟩
  clear X0
  go_wp2_with fail
  refine (HFI.out W0 HX0.out).mono ?_
  rintro e W1 ⟨vg, rfl, og, x1⟩
  have HOG := Lib.hid og
  obtain ⟨Ag, ng, cg, rfl, _, hrg, hng⟩ := og.isI.open_
  have HLG := Lib.hid hrg.len
  have HRG := Lib.hid hrg
  have HX1 := Lib.hid (HX0.out.trans x1)
  have c2 := x1.cell_some b2
  have c3 := x1.cell_some b3
  have l2 := cell_lt c2
  have l3 := cell_lt c3
  clear x1 og hrg b2 b3
  go_wp2_with fail
  refine lay_wp (fun W => Ext W1 W ∧ W.cell? ⟨w.heap.size, 0, none⟩ = some (.slice A n c) ∧ W.cell? ⟨w.heap.size + 1, 0, none⟩ = some (.slice A' (m2 + 1) c') ∧ W.cell? ⟨W1.heap.size, 0, none⟩ = some (.slice Ag ng cg)) ⟨by (repeat' (first | with_reducible exact Ext.refl _ | with_reducible apply Ext.alloc | with_reducible apply Ext.drew | with_reducible apply Ext.drewN | with_reducible refine Ext.setCell ?_ ?_ _ | with_reducible apply Ext.step | with_reducible assumption | with_reducible exact Nat.le_refl _ | (simp; done) | (simp; omega))), by go_cell, by go_cell, by go_cell⟩ ?_
  rintro W9 ⟨X9, d2, d3, d7⟩
  have HX9 := Lib.hid X9
  clear X9 c2 c3
  have l2 := cell_lt d2
  have l3 := cell_lt d3
  have l7 := cell_lt d7
  refine wp_region_mk ([⟨5, 7, 9, 3, #[.int .i64 0], 38⟩, ⟨6, 8, 10, 3, #[.int .i64 0], 41⟩]) (by kernel_rfl) (by kernel_rfl) ?_ ?_
  · intro m hm o ho ρ W
    simp only [List.mem_cons, List.not_mem_nil, or_false] at hm
    rcases hm with rfl | rfl <;> (cases ho; go_simp)
  repeat (any_goals (first | (refine wpX_skip (by rfl) ?_) | (refine wpX_pass (by rfl) (by rfl) ?_) | (refine wpX_stepK (by rfl) (by rfl) (fun K hK => ?_); go_simp; first | (refine hK _ ?_; clear hK K) | (apply Exists.intro; refine ⟨fun δ => ?_, hK _ ?_⟩; (focus (fail)); clear hK K))))
  all_goals refine wpX_nil ⟨?_, ?_⟩
  any_goals (intro m hm; simp only [List.mem_cons, List.not_mem_nil, or_false] at hm; rcases hm with rfl | rfl <;> exact ⟨by kernel_rfl, rfl, by simp [Value.cells, Value.oneCell']⟩)
  all_goals refine mk_two (by decide) ?_
  rintro bn bm δ hbn hbm hne Mn Mm
  have X10 : Ext W9 δ.wd := ⟨δ, rfl⟩
  have kn : δ.wd.cell? ⟨bn, 0, none⟩ = some (.int .i64 n) := (Mn.cell 0).trans (by simp [Value.cells])
  have hw2 : IntKind.i64.wrap (m2 : Int) = m2 := IntWalk.i64_in _ (by omega)
  have km : δ.wd.cell? ⟨bm, 0, none⟩ = some (.int .i64 m2) := (Mm.cell 0).trans (by simp [Value.cells, hw2])
  clear Mn Mm hw2
  have e2 := X10.cell_some d2
  have e3 := X10.cell_some d3
  have e7 := X10.cell_some d7
  have HX10 := Lib.hid (HX9.out.trans X10)
  have hb9 : W1.heap.size ≤ W9.heap.size := HX9.out.bel.size
  clear X10 d2 d3 d7
  generalize δ.wd = W10 at *
  have l2 := cell_lt e2
  have l3 := cell_lt e3
  have l7 := cell_lt e7
  have ln := cell_lt kn
  have lm := cell_lt km
  obtain ⟨ck, hins, hck⟩ := run_mapUpdateW (w := W10.alloc (.map #[] 0)) (M := W10.heap.size) (es := []) (clock := 0) (heap_alloc_new W10 _) 0 0 1
  obtain rfl : ck = 1 := hck
  unfold keyV at hins
  simp only [Int.natCast_zero, setE] at hins
  have hmm := @run_makeMap Try.prog
  obtain ⟨S, hS⟩ : ∃ S, setBlock (W10.alloc (.map #[] 0)) W10.heap.size (.map (entriesOf [⟨0, 0, 1, 0⟩]) 1) = S := ⟨_, rfl⟩
  rw [hS] at hins
  have hSs : S.heap.size = W10.heap.size + 1 := by rw [← hS, setBlock_size]; simp
  have XS : Ext W10 S := by rw [← hS]; exact setBlock_ext ((Ext.refl W10).alloc _) (Nat.le_refl _) _
  have hSM : S.heap[W10.heap.size]? = some (.map (entriesOf [⟨0, 0, 1, 0⟩]) 1) := by rw [← hS]; exact setBlock_self _ _ _ (by simp)
  clear hS
  have g2 := XS.cell_some e2
  have g3 := XS.cell_some e3
  have g7 := XS.cell_some e7
  have gn := XS.cell_some kn
  have gm := XS.cell_some km
  have HXS := Lib.hid (HX10.out.trans XS)
  have HSM := Lib.hid hSM
  clear XS e2 e3 e7 kn km hSM
  have l2a : w.heap.size < W10.heap.size + 1 := Nat.lt_succ_of_lt l2
  have l2b : w.heap.size < W10.heap.size + 1 + 1 := Nat.lt_succ_of_lt l2a
  have l3a : w.heap.size + 1 < W10.heap.size + 1 := Nat.lt_succ_of_lt l3
  have l3b : w.heap.size + 1 < W10.heap.size + 1 + 1 := Nat.lt_succ_of_lt l3a
  have l7a : W1.heap.size < W10.heap.size + 1 := Nat.lt_succ_of_lt l7
  have l7b : W1.heap.size < W10.heap.size + 1 + 1 := Nat.lt_succ_of_lt l7a
  have lna : bn < W10.heap.size + 1 := Nat.lt_succ_of_lt ln
  have lnb : bn < W10.heap.size + 1 + 1 := Nat.lt_succ_of_lt lna
  have lma : bm < W10.heap.size + 1 := Nat.lt_succ_of_lt lm
  have lmb : bm < W10.heap.size + 1 + 1 := Nat.lt_succ_of_lt lma
  go_wp2_with fail
  have XS2 := HXS.out
  refine lay_wp (fun W => Ext W1 W ∧ W.heap.size = W10.heap.size + 1 + 1 + 1 ∧ W.cell? ⟨w.heap.size, 0, none⟩ = some (.slice A n c) ∧ W.cell? ⟨w.heap.size + 1, 0, none⟩ = some (.slice A' (m2 + 1) c') ∧ W.cell? ⟨W1.heap.size, 0, none⟩ = some (.slice Ag ng cg) ∧
    W.cell? ⟨bn, 0, none⟩ = some (.int .i64 n) ∧ W.cell? ⟨bm, 0, none⟩ = some (.int .i64 m2) ∧ W.cell? ⟨W10.heap.size + 1 + 1, 0, none⟩ = some (.map (some (W10.heap.size + 1))) ∧ W.frozen? ⟨W10.heap.size + 1 + 1, 0, none⟩ = false ∧
    W.heap[W10.heap.size]? = some (.map (entriesOf [⟨0, 0, 1, 0⟩]) 1) ∧ W.heap[W10.heap.size + 1]? = some (.map (entriesOf []) 0)) ⟨by (repeat' (first | with_reducible exact Ext.refl _ | with_reducible apply Ext.alloc | with_reducible apply Ext.drew | with_reducible apply Ext.drewN | with_reducible refine Ext.setCell ?_ ?_ _ | with_reducible apply Ext.step | with_reducible assumption | with_reducible exact Nat.le_refl _ | (simp; done) | (simp; omega))), by go_simp, by go_cell, by go_cell, by go_cell, by go_cell, by go_cell, by go_cell, by go_simp, ?_, ?_⟩ ?_
  · rw [heap_alloc_old _ _ (by go_simp), heap_alloc_old _ _ (by omega)]
    exact HSM.out
  · rw [heap_alloc_old _ _ (by go_simp), ← hSs, heap_alloc_new]
    rfl
  rintro W12 ⟨X12, hs12, j2, j3, j7, jn, jm, jx, jf, jM0, jM1⟩
  have HX12 := Lib.hid X12
  have HS12 := Lib.hid hs12
  have hM1 : W1.heap.size ≤ W10.heap.size := Nat.le_of_lt l7
  clear XS2 X12 hs12 g2 g3 g7 gn gm HSM hSs HXS hmm hins hb9 HX9 HX10 l2a l2b l3a l3b l7a l7b lna lnb lma lmb S
  generalize W10.heap.size = M0 at *
  have HS12' : M0 + 1 + 1 < W12.heap.size := by rw [HS12.out]; omega
  have HJ0 := Lib.hid jM0
  have HJ1 := Lib.hid jM1
  have HJx := Lib.hid jx
  have HJf := Lib.hid jf
  clear jM0 jM1 jx jf
  have HAh : Hid (∀ (W : World) (Mw Mn r : Nat) (es es3 : List ME) (ck ck3 : Nat) (seen : Array Nat), InMid M0 (2 ^ m2) W12 W Mw Mn r es es3 ck ck3 seen → ∀ (h q ea eb : Nat) (c : Int), h ≤ 1 → ea < 2 ^ m2 → eb < 2 ^ m2 → q ≤ 1000 → 0 ≤ c → c < 1000000007 →
      Calls Try.prog 81 #[.agg #[.int .u64 ea, .int .u64 eb], .int .u64 (h : Int), .int .i64 q, .int .i64 c, .pointer (some ⟨bm, 0, none⟩), .pointer (some ⟨W1.heap.size, 0, none⟩), .pointer (some ⟨w.heap.size + 1, 0, none⟩), .pointer (some ⟨bn, 0, none⟩), .pointer (some ⟨w.heap.size, 0, none⟩), .pointer (some ⟨M0 + 1 + 1, 0, none⟩)] W (AddPost Mn (addE (underL ls ys) ls ys q h ea eb c ck3 es3) (2 ^ m2) W)) := Lib.hid (fun W Mw Mn r es es3 ck ck3 seen I h q ea eb cc hh hea heb hq hc0 hc1 => by
    have hb : Ext W1 W := HX12.out.below (I.but.below (B := W1.heap.size) (fun d hd => by simp at hd; omega) HX12.out.bel.size) (Nat.le_refl _)
    have hmm : ys.length - 1 = m2 := by rw [HL2.out]; rfl
    have := add_any W bm W1.heap.size (w.heap.size + 1) bn w.heap.size (M0 + 1 + 1) Mn (underL ls ys) ls ys (.slice Ag ng cg) (.slice A' (m2 + 1) c') (.slice A n c)
      ⟨by rw [hmm]; exact I.cell jm lm, I.cell j7 l7, I.cell j3 l3, by rw [HL1.out]; exact I.cell jn ln, I.cell j2 l2, I.cx, HOG.out.isI.ext hb, HV.out.ext (HX1.out.trans hb), HU.out.ext (HX1.out.trans hb)⟩
      HF.out.under (underL_len _ _) (by rw [HL2.out]; exact h7) es3 ck3 I.hn (by rw [hmm]; exact I.ok2) ea eb h q cc (by rw [hmm]; exact hea) (by rw [hmm]; exact heb) hh hq hc0 hc1
    rw [hmm] at this
    exact this)
  have HA1 : Hid (∀ (W : World) (Mw Mn r : Nat) (es es3 : List ME) (ck ck3 : Nat) (seen : Array Nat), InMid M0 (2 ^ m2) W12 W Mw Mn r es es3 ck ck3 seen → ∀ (q ea eb : Nat) (c : Int), ea < 2 ^ m2 → eb < 2 ^ m2 → q ≤ 1000 → 0 ≤ c → c < 1000000007 →
      Calls Try.prog 81 #[.agg #[.int .u64 ea, .int .u64 eb], .int .u64 1, .int .i64 q, .int .i64 c, .pointer (some ⟨bm, 0, none⟩), .pointer (some ⟨W1.heap.size, 0, none⟩), .pointer (some ⟨w.heap.size + 1, 0, none⟩), .pointer (some ⟨bn, 0, none⟩), .pointer (some ⟨w.heap.size, 0, none⟩), .pointer (some ⟨M0 + 1 + 1, 0, none⟩)] W (AddPost Mn (addE (underL ls ys) ls ys q 1 ea eb c ck3 es3) (2 ^ m2) W)) := Lib.hid fun W Mw Mn r es es3 ck ck3 seen I q ea eb c => HAh.out W Mw Mn r es es3 ck ck3 seen I 1 q ea eb c (by decide)
  have HA0 : Hid (∀ (W : World) (Mw Mn r : Nat) (es es3 : List ME) (ck ck3 : Nat) (seen : Array Nat), InMid M0 (2 ^ m2) W12 W Mw Mn r es es3 ck ck3 seen → ∀ (q ea eb : Nat) (c : Int), ea < 2 ^ m2 → eb < 2 ^ m2 → q ≤ 1000 → 0 ≤ c → c < 1000000007 →
      Calls Try.prog 81 #[.agg #[.int .u64 ea, .int .u64 eb], .int .u64 0, .int .i64 q, .int .i64 c, .pointer (some ⟨bm, 0, none⟩), .pointer (some ⟨W1.heap.size, 0, none⟩), .pointer (some ⟨w.heap.size + 1, 0, none⟩), .pointer (some ⟨bn, 0, none⟩), .pointer (some ⟨w.heap.size, 0, none⟩), .pointer (some ⟨M0 + 1 + 1, 0, none⟩)] W (AddPost Mn (addE (underL ls ys) ls ys q 0 ea eb c ck3 es3) (2 ^ m2) W)) := Lib.hid fun W Mw Mn r es es3 ck ck3 seen I q ea eb c => HAh.out W Mw Mn r es es3 ck ck3 seen I 0 q ea eb c (by decide)
  go_loopw [50, 11] (fun i wv wr => ∃ (k Mw Mn : Nat) (es es2 : List ME) (ck ck2 : Nat), k ≤ n + m2 ∧ i = .int .i64 (k : Int) ∧ wv = .map (some Mw) ∧ CntAt (underL ls ys) ls ys (n + m2) M0 (2 ^ m2) W12 wr k Mw Mn es es2 ck ck2) (fun i _ _ => n + m2 - (intOf i).toNat)
  case atStart =>
    refine ⟨0, M0, M0 + 1, [⟨0, 0, 1, 0⟩], [], 1, 0, by omega, rfl, rfl, ⟨.inl ⟨rfl, rfl⟩, ButC.refl _ _, HJx.out, HJf.out, HJ0.out, HJ1.out, ⟨by simp, ?_, by simp, by simp, by simp⟩, ?_⟩⟩
    · have := Nat.two_pow_pos m2
      simp
      omega
    · simp [sumE]
  case round =>
    obtain ⟨k, Mw, Mn, es, es2, ck, ck2, hk, rfl, rfl, R⟩ := hrel
    have HR := Lib.hid R
    by_cases hlt : k < n + m2
    · have hdk : decide ((k : Int) < n + m2) = true := by simp; omega
      have q2 := R.but.cell j2 (by simp; omega)
      have q3 := R.but.cell j3 (by simp; omega)
      have q7 := R.but.cell j7 (by simp; omega)
      have qn := R.but.cell jn (by simp; omega)
      have qm := R.but.cell jm (by simp; omega)
      have qx := R.cx
      have hclr := run_clearW 0 R.hn
      obtain ⟨WC, hWC⟩ : ∃ WC, setBlock wr Mn (.map (entriesOf []) ck2) = WC := ⟨_, rfl⟩
      rw [hWC] at hclr
      have hne : Mn ≠ Mw := by rcases R.mm with ⟨h1, h2⟩ | ⟨h1, h2⟩ <;> omega
      have HwC := Lib.hid (show WC.heap[Mw]? = some (.map (entriesOf es) ck) by rw [← hWC, setBlock_heap _ _ _ _ hne]; exact R.hw)
      have HWC := Lib.hid hWC
      clear R hWC hne
      go_wp2_with (at_range; refine wpList_range_W rfl _ rfl rfl HwC.out ?_; intro W15 X15 R15 s15)
      have HI := Lib.hid (InMid.start HR.out HS12' HWC.out X15 rfl R15)
      clear X15 R15 s15 HwC
      go_frame
      generalize WC.heap.size = r at *
      obtain ⟨G, hG⟩ : ∃ G, cntV (underL ls ys) ls ys (n + m2 - (k + 1)) (k + 1) = G := ⟨_, rfl⟩
      have HGE := Lib.hid hG
      clear hG
      go_loopw [15, 16] (fun _ _ W => ∃ (es3 : List ME) (ck3 : Nat) (seen : Array Nat), InMid M0 (2 ^ m2) W12 W Mw Mn r es es3 ck ck3 seen ∧ Hid (sumE G es3 % 1000000007 = visE (fun e => e.v * cntV (underL ls ys) ls ys (n + m2 - k) k e.a e.b) seen es % 1000000007)) (fun _ _ W => W.rangeLeft Mw r)
      case atStart => exact ⟨[], ck2, #[], HI.out, Lib.hid (by rw [visE_none]; rfl)⟩
      case round =>
        obtain ⟨es3, ck3, seen, I, hsum⟩ := hrel
        have HI3 := Lib.hid I
        clear I
        go_wp2_with (at_next; refine wpList_next_W rfl _ rfl rfl HI3.out.rg HR.out.ok ?_ ?_)
        · intro hall
          have cx := HI3.out.cx
          have fx := HI3.out.fx
          have HALL := Lib.hid (show ∀ e ∈ es, seen.contains e.born = true from fun e he => by simpa using hall e he)
          clear hall q2 q3 q7 qn qm qx
          go_wp2_with fail
          go_roundw
          case rel =>
            refine ⟨k + 1, Mn, Mw, es3, es, ck3, ck, by omega, by go_num, rfl, HI3.out.swap ?_⟩
            rw [HGE.out, hsum.out, visE_all _ _ _ HALL.out]
            exact HR.out.sum
          case measure => simp [intOf]; omega
        · rintro ⟨ea, eb, ev, ebn⟩ hme hse W16 g16 hsz R16 hlt16 hent
          have HI4 := Lib.hid (HI3.out.next g16 R16)
          have HLT := Lib.hid hlt16
          have HSE := Lib.hid (show seen.contains ebn = false by simpa using hse)
          have HME := Lib.hid hme
          have ⟨hv0, hv1⟩ := HR.out.ok.vals _ hme
          have ⟨hea, heb⟩ := HR.out.ok.bound _ hme
          simp only [] at hv0 hv1 hea heb hent
          unfold keyV at hent
          unfold keyV
          clear g16 hsz R16 hlt16 hse hme q2 q3 q7 qn qm qx
          have q2 := HI4.out.cell j2 l2
          have q3 := HI4.out.cell j3 l3
          have q7 := HI4.out.cell j7 l7
          have qn := HI4.out.cell jn ln
          have qm := HI4.out.cell jm lm
          have m2' := cell_lt q2
          have m3' := cell_lt q3
          have m7' := cell_lt q7
          have mn' := cell_lt qn
          by_cases hkn : k < n
          · have hd1 : decide ((n : Int) ≤ k) = false := by simp; omega
            go_wp2_with fail
            refine lay_calls (fun W => Ext W16 W ∧ W.cell? ⟨W16.heap.size, 0, none⟩ = some (.int .u64 ea) ∧ W.cell? ⟨W16.heap.size, 1, none⟩ = some (.int .u64 eb)) ⟨by (repeat' (first | with_reducible exact Ext.refl _ | with_reducible apply Ext.alloc | with_reducible apply Ext.drew | with_reducible apply Ext.drewN | with_reducible refine Ext.setCell ?_ ?_ _ | with_reducible apply Ext.step | with_reducible assumption | with_reducible exact Nat.le_refl _ | (simp; done) | (simp; omega))), by go_cell, by go_cell⟩ ?_
            rintro W17 ⟨X17, y0, y1⟩
            have HI5 := Lib.hid (HI4.out.ext X17)
            refine (HA1.out W17 Mw Mn r es es3 ck ck3 _ HI5.out k ea eb ev hea heb (by omega) hv0 hv1).mono ?_
            rintro e W18 ⟨rfl, g18, ck4, hM18, ok18⟩
            have hn16 : W16.heap.size ≠ Mn := by
              have h1 := HI4.out.but.size
              have h2 := HI4.out.h12
              rcases HI4.out.mm with ⟨_, h3⟩ | ⟨_, h3⟩ <;> omega
            have z0 := g18.cell y0 (by simpa using hn16)
            have z1 := g18.cell y1 (by simpa using hn16)
            have HI6 := Lib.hid (HI5.out.add g18 hM18 ok18)
            clear g18 hM18 ok18 y0 y1 X17 hn16 hent q2 q3 q7 qn qm m2' m3' m7' mn'
            have q7 := HI6.out.cell j7 l7
            have hb18 : Ext W1 W18 := HX12.out.below (HI6.out.but.below (B := W1.heap.size) (fun d hd => by simp at hd; omega) HX12.out.bel.size) (Nat.le_refl _)
            have hng : ng = n := by rw [← HLG.out, underL_len, HL1.out]
            obtain ⟨bg, og, rfl, _, hcg⟩ := HRG.out.at_ k (by omega)
            have hcg' := hb18.cell_some hcg
            obtain ⟨hg0, hg1⟩ := HF.out.under.hx k
            have HV2 := Lib.hid (show ∀ ea eb, cntV (underL ls ys) ls ys (n + m2 - k) k ea eb = cntA (underL ls ys) ls ys k 1 ea eb G + (underL ls ys)[k]?.getD 0 * cntA (underL ls ys) ls ys k 0 ea eb G from fun ea eb => by
              rw [show n + m2 - k = n + m2 - (k + 1) + 1 by omega, cnt_low (by rw [HL1.out]; exact hkn), HGE.out])
            have HPS := Lib.hid (visE_push (fun e => e.v * cntV (underL ls ys) ls ys (n + m2 - k) k e.a e.b) seen ⟨ea, eb, ev, ebn⟩ HSE.out es HR.out.ok.born HME.out)
            generalize (underL ls ys)[k]?.getD 0 = gk at *
            have hkng : k < ng := by omega
            clear hng hcg hb18
            by_cases hp : 0 < gk
            · have hp0 : 0 ≤ ev * gk := Int.mul_nonneg hv0 hg0
              have hp1 : ev * gk ≤ 10000080000000 := Int.le_trans (Int.mul_le_mul (show ev ≤ 1000000008 by omega) hg1 hg0 (by decide)) (by decide)
              have hs0 : 0 ≤ ev * gk % 1000000007 := Int.emod_nonneg _ (by decide)
              have hs1 : ev * gk % 1000000007 < 1000000007 := Int.emod_lt_of_pos _ (by decide)
              go_wp2_with fail
              refine wp_region_still_tail 10 (by kernel_rfl) (by kernel_rfl) ?_
              simp only [List.take_succ_cons, List.take_zero, List.drop_succ_cons, List.drop_zero]
              repeat (refine wpStill_step (fun K hK => ?_); go_simp; (try go_bits); refine hK _ ?_; clear hK K)
              refine wpStill_nil ?_
              change wpList _ _ _ _ _ W18.drew
              go_wp2_with fail
              have HI7 := Lib.hid (HI6.out.ext ((Ext.refl W18).drew))
              refine (HA0.out _ Mw Mn r es _ ck ck4 _ HI7.out k ea eb _ hea heb (by omega) hs0 hs1).mono ?_
              rintro e W19 ⟨rfl, g19, ck5, hM19, ok19⟩
              have HI8 := Lib.hid (HI7.out.add g19 hM19 ok19)
              clear g19 hM19 ok19 q7 hcg' z0 z1
              go_wp2_with fail
              go_roundw
              case rel =>
                refine ⟨_, ck5, _, HI8.out, Lib.hid ?_⟩
                rw [HPS.out, HV2.out]
                exact sum_two hsum.out rfl rfl
              case measure => rw [HI8.out.rg.left, ← HI4.out.rg.left]; exact HLT.out
            · obtain rfl : gk = 0 := by omega
              go_wp2_with fail
              go_roundw
              case rel =>
                refine ⟨_, ck4, _, HI6.out, Lib.hid ?_⟩
                rw [HPS.out, HV2.out, Int.zero_mul, Int.add_zero]
                exact sum_one hsum.out rfl
              case measure => rw [HI6.out.rg.left, ← HI4.out.rg.left]; exact HLT.out
          · have hd1 : decide ((n : Int) ≤ k) = true := by simp; omega
            have hkn' : n ≤ k := by omega
            obtain ⟨fq, hfq⟩ : ∃ fq, ea / 2 ^ (k - n) = fq := ⟨_, rfl⟩
            have hfl : fq ≤ ea := by rw [← hfq]; exact Nat.div_le_self _ _
            have p1 : 2 ^ m2 ≤ 2 ^ 6 := Nat.pow_le_pow_right (by decide) (by omega)
            have sA : (ea : Int) / 2 ^ (k - n) = (fq : Int) := by rw [← hfq]; simp
            obtain ⟨hb, hhb⟩ : ∃ hb, fq % 2 = hb := ⟨_, rfl⟩
            have sB : bits .and .u64 (fq : Int) 1 = (hb : Int) := by
              have := u64_and_nat fq 1 (by omega) (by decide)
              rw [nat_mask1, hhb] at this
              exact this
            have sC : ((k : Int) - n).toNat = k - n := by omega
            have HV2 := Lib.hid (show ∀ eb, cntV (underL ls ys) ls ys (n + m2 - k) k ea eb = cntA (underL ls ys) ls ys k hb ea eb G from fun eb => by
              rw [show n + m2 - k = n + m2 - (k + 1) + 1 by omega, cnt_high (by rw [HL1.out]; exact hkn'), HGE.out, HL1.out, hfq, hhb])
            have HPS := Lib.hid (visE_push (fun e => e.v * cntV (underL ls ys) ls ys (n + m2 - k) k e.a e.b) seen ⟨ea, eb, ev, ebn⟩ HSE.out es HR.out.ok.born HME.out)
            have hhb1 : hb ≤ 1 := by omega
            clear hfq hhb p1 hfl
            go_wp2_with fail
            refine lay_wp (fun W => Ext W16 W ∧ W.cell? ⟨W16.heap.size, 0, none⟩ = some (.int .u64 ea) ∧ W.cell? ⟨W16.heap.size, 1, none⟩ = some (.int .u64 eb)) ⟨by (repeat' (first | with_reducible exact Ext.refl _ | with_reducible apply Ext.alloc | with_reducible apply Ext.drew | with_reducible apply Ext.drewN | with_reducible refine Ext.setCell ?_ ?_ _ | with_reducible apply Ext.step | with_reducible assumption | with_reducible exact Nat.le_refl _ | (simp; done) | (simp; omega))), by go_cell, by go_cell⟩ ?_
            rintro W17 ⟨X17, y0, y1⟩
            have pn := X17.cell_some qn
            refine wp_region_still_tail 11 (by kernel_rfl) (by kernel_rfl) ?_
            simp only [List.take_succ_cons, List.take_zero, List.drop_succ_cons, List.drop_zero]
            repeat (refine wpStill_step (fun K hK => ?_); go_simp; (try go_bits); refine hK _ ?_; clear hK K)
            refine wpStill_nil ?_
            change wpList _ _ _ _ _ W17.drew
            go_wp2_with fail
            have HI5 := Lib.hid (HI4.out.ext X17.drew)
            refine (HAh.out _ Mw Mn r es es3 ck ck3 _ HI5.out hb k ea eb ev hhb1 hea heb (by omega) hv0 hv1).mono ?_
            rintro e W18 ⟨rfl, g18, ck4, hM18, ok18⟩
            have HI6 := Lib.hid (HI5.out.add g18 hM18 ok18)
            clear g18 hM18 ok18 q2 q3 q7 qn qm m2' m3' m7' mn' hent y0 y1 pn X17
            go_wp2_with fail
            go_roundw
            case rel =>
              refine ⟨_, ck4, _, HI6.out, Lib.hid ?_⟩
              rw [HPS.out, HV2.out]
              exact sum_one hsum.out rfl
            case measure => rw [HI6.out.rg.left, ← HI4.out.rg.left]; exact HLT.out
    · obtain rfl : k = n + m2 := by omega
      have hdk : decide ((n : Int) + m2 < n + m2) = false := by simp
      have HSZ := Lib.hid (show ∀ seen : Array Nat, 0 ≤ visE (fun e => e.v) seen es ∧ visE (fun e => e.v) seen es ≤ 5000000000000 from fun seen => by
        have h1 := visE_bd (f := fun e => e.v) (seen := seen) (B := 1000000007) (by decide) es (fun e he => by have := R.ok.vals e he; exact ⟨this.1, Int.le_of_lt this.2⟩)
        have h2 := R.ok.len
        have p1 : 2 ^ m2 ≤ 2 ^ 6 := Nat.pow_le_pow_right (by decide) (by omega)
        have h3 : 2 ^ m2 * 2 ^ m2 ≤ 2 ^ 6 * 2 ^ 6 := Nat.mul_le_mul p1 p1
        have h4 : es.length ≤ 4096 := by omega
        refine ⟨h1.1, Int.le_trans h1.2 ?_⟩
        have : (es.length : Int) * 1000000007 ≤ 4096 * 1000000007 := Int.mul_le_mul_of_nonneg_right (by omega) (by decide)
        omega)
      have HBW := Lib.hid (show Ext W1 wr from HX12.out.below (R.but.below (B := W1.heap.size) (fun d hd => by simp at hd; omega) HX12.out.bel.size) (Nat.le_refl _))
      have HFS := Lib.hid (show (es.map fun e => e.v).sum % 1000000007 = cntV (underL ls ys) ls ys (n + m2) 0 0 0 % 1000000007 by
        rw [← R.sum, Nat.sub_self]
        simp [sumE, cntV])
      clear R
      go_wp2_with (at_range; refine wpList_range_W rfl _ rfl rfl HR.out.hw ?_; intro W15 X15 R15 s15)
      have HX15 := Lib.hid X15
      have HR15 := Lib.hid R15
      obtain ⟨r, hr⟩ : ∃ r, wr.heap.size = r := ⟨_, rfl⟩
      have HRR := Lib.hid hr
      rw [hr] at HR15
      clear X15 R15 s15
      go_frame
      rw [hr]
      clear hr
      go_loopw [17, 19] (fun s _ W => ∃ seen : Array Nat, RangeAt W Mw r es ck seen ∧ Ext wr W ∧ s = .int .i64 (visE (fun e => e.v) seen es)) (fun _ _ W => W.rangeLeft Mw r)
      case atStart => exact ⟨#[], HR15.out, HX15.out, by rw [visE_none]⟩
      case round =>
        obtain ⟨seen, I, X, rfl⟩ := hrel
        have HI3 := Lib.hid I
        have HX3 := Lib.hid X
        obtain ⟨hb0, hb1⟩ := HSZ.out seen
        clear I X
        go_wp2_with (at_next; refine wpList_next_W rfl _ rfl rfl HI3.out HR.out.ok ?_ ?_)
        · intro hall
          have HALL := Lib.hid (show ∀ e ∈ es, seen.contains e.born = true from fun e he => by simpa using hall e he)
          clear hall
          obtain ⟨sv, hsv⟩ : ∃ sv, visE (fun e => e.v) seen es = sv := ⟨_, rfl⟩
          rw [hsv] at hb0 hb1 ⊢
          have HSV := Lib.hid hsv
          clear hsv
          go_wp2_with fail
          go_ret2
          refine ⟨?_, (HX1.out.trans HBW.out).trans HX3.out⟩
          rw [HL1.out, HL2.out, Nat.add_sub_cancel, ← HFS.out, ← visE_all (fun e => e.v) seen es HALL.out, HSV.out]
          rfl
        · rintro ⟨ea, eb, ev, ebn⟩ hme hse W16 g16 hsz R16 hlt16 hent
          have HPS := Lib.hid (visE_push (fun e => e.v) seen ⟨ea, eb, ev, ebn⟩ (by simpa using hse) es HR.out.ok.born hme)
          have hb2 := (HSZ.out (seen.push ebn)).2
          have ⟨hv0, hv1⟩ := HR.out.ok.vals _ hme
          simp only [] at hv0 hv1
          have HX16 := Lib.hid (ext_iter HX3.out g16 (Nat.le_of_eq HRR.out))
          have HR16 := Lib.hid R16
          have HLT := Lib.hid hlt16
          obtain ⟨sv, hsv⟩ : ∃ sv, visE (fun e => e.v) seen es = sv := ⟨_, rfl⟩
          rw [hsv] at hb0 hb1 HPS ⊢
          unfold keyV at hent ⊢
          clear g16 hsz R16 hlt16 hse hme hsv hb2
          go_wp2_with fail
          go_roundw
          case rel => exact ⟨_, HR16.out, HX16.out, by rw [HPS.out]⟩
          case measure => exact HLT.out
end Go.Proofs.Ytaaceadcnnfngaa
