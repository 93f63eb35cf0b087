/- A table of costs in one block: read, stored, made. No condition. -/
import Derived.Test.YtgeapenglcohfaaGHid
namespace Go.Proofs.Ytgeapenglcohfaa
open Go.RowKit

theorem But.over {D : List Nat} {b : Nat} {W2 Wf W : World} (h : But D W2 Wf) (k : But [b] Wf W) (hb : W2.heap.size ≤ b) : But D W2 W :=
  ⟨k.os.trans h.os, k.tape.trans h.tape, k.output.trans h.output, Nat.le_trans h.size k.size, fun i hi hd => (k.block i (Nat.lt_of_lt_of_le hi h.size) (by simp; omega)).trans (h.block i hi hd)⟩
theorem But.over2 {D : List Nat} {b c : Nat} {W2 Wf W : World} (h : But D W2 Wf) (k : But [b, c] Wf W) (hb : W2.heap.size ≤ b) (hc : W2.heap.size ≤ c) : But D W2 W :=
  ⟨k.os.trans h.os, k.tape.trans h.tape, k.output.trans h.output, Nat.le_trans h.size k.size, fun i hi hd => (k.block i (Nat.lt_of_lt_of_le hi h.size) (by simp; omega)).trans (h.block i hi hd)⟩

/-- Costs lie at an offset of a block. -/
structure CostAt (g o : Nat) (c : Cst) (W : World) : Prop where
  c0 : W.cell? ⟨g, o, none⟩ = some (.int .i64 c.1)
  c1 : W.cell? ⟨g, o + 1, none⟩ = some (.int .i64 c.2.1)
  c2 : W.cell? ⟨g, o + 2, none⟩ = some (.bool c.2.2)
  f0 : W.frozen? ⟨g, o, none⟩ = false
  f1 : W.frozen? ⟨g, o + 1, none⟩ = false
  f2 : W.frozen? ⟨g, o + 2, none⟩ = false
theorem CostAt.ext {g o : Nat} {c : Cst} {W W' : World} (h : CostAt g o c W) (x : Ext W W') : CostAt g o c W' :=
  ⟨x.cell_some h.c0, x.cell_some h.c1, x.cell_some h.c2, x.frozen h.c0 h.f0, x.frozen h.c1 h.f1, x.frozen h.c2 h.f2⟩
theorem CostAt.but {g o : Nat} {c : Cst} {D : List Nat} {W W' : World} (h : CostAt g o c W) (x : But D W W') (hg : g ∉ D) : CostAt g o c W' :=
  ⟨x.cell h.c0 hg, x.cell h.c1 hg, x.cell h.c2 hg, x.frozen h.c0 h.f0 hg, x.frozen h.c1 h.f1 hg, x.frozen h.c2 h.f2 hg⟩
theorem CostAt.oth {g o b p : Nat} {c : Cst} {W : World} (h : CostAt g o c W) (u : Value) (hn : g ≠ b ∨ (o ≠ p ∧ o + 1 ≠ p ∧ o + 2 ≠ p)) : CostAt g o c (W.setCell ⟨b, p, none⟩ u) := by
  refine ⟨(cell_set_other ?_).trans h.c0, (cell_set_other ?_).trans h.c1, (cell_set_other ?_).trans h.c2, by simp [h.f0], by simp [h.f1], by simp [h.f2]⟩
  · rcases hn with h | h
    · exact .inl h
    · exact .inr h.1
  · rcases hn with h | h
    · exact .inl h
    · exact .inr h.2.1
  · rcases hn with h | h
    · exact .inl h
    · exact .inr h.2.2
theorem CostAt.put {g o : Nat} {c : Cst} {W : World} (h : CostAt g o c W) (d : Cst) : CostAt g o d (((W.setCell ⟨g, o, none⟩ (.int .i64 d.1)).setCell ⟨g, o + 1, none⟩ (.int .i64 d.2.1)).setCell ⟨g, o + 2, none⟩ (.bool d.2.2)) := by
  refine ⟨?_, ?_, ?_, by simp [h.f0], by simp [h.f1], by simp [h.f2]⟩
  · exact (cell_set_other (.inr (by omega))).trans ((cell_set_other (.inr (by omega))).trans (cell_set_same h.c0))
  · exact (cell_set_other (.inr (by omega))).trans (cell_set_same ((cell_set_other (.inr (by omega))).trans h.c1))
  · exact cell_set_same ((cell_set_other (.inr (by omega))).trans ((cell_set_other (.inr (by omega))).trans h.c2))
theorem CostAt.put2 {g o : Nat} {c : Cst} {W : World} (h : CostAt g o c W) (b : Bool) : CostAt g o (c.1, c.2.1, b) (W.setCell ⟨g, o + 2, none⟩ (.bool b)) :=
  ⟨(cell_set_other (.inr (by omega))).trans h.c0, (cell_set_other (.inr (by omega))).trans h.c1, cell_set_same h.c2, by simp [h.f0], by simp [h.f1], by simp [h.f2]⟩

/-- The table: R rows of 41. -/
def TabIs (g R : Nat) (T : Nat → Nat → Cst) (W : World) : Prop := ∀ i s, i < R → s < 41 → CostAt g (i * 123 + s * 3) (T i s) W
def updT (T : Nat → Nat → Cst) (i s : Nat) (c : Cst) (j r : Nat) : Cst := if j = i ∧ r = s then c else T j r
theorem TabIs.ext {g R : Nat} {T : Nat → Nat → Cst} {W W' : World} (h : TabIs g R T W) (x : Ext W W') : TabIs g R T W' := fun i s hi hs => (h i s hi hs).ext x
theorem TabIs.but {g R : Nat} {T : Nat → Nat → Cst} {D : List Nat} {W W' : World} (h : TabIs g R T W) (x : But D W W') (hg : g ∉ D) : TabIs g R T W' := fun i s hi hs => (h i s hi hs).but x hg
theorem TabIs.congr {g R : Nat} {T T' : Nat → Nat → Cst} {W : World} (h : TabIs g R T W) (e : ∀ i s, i < R → s < 41 → T i s = T' i s) : TabIs g R T' W := fun i s hi hs => e i s hi hs ▸ h i s hi hs
theorem TabIs.put {g R : Nat} {T : Nat → Nat → Cst} {W : World} (h : TabIs g R T W) {i s : Nat} (hi : i < R) (hs : s < 41) (d : Cst) :
    TabIs g R (updT T i s d) (((W.setCell ⟨g, i * 123 + s * 3, none⟩ (.int .i64 d.1)).setCell ⟨g, i * 123 + s * 3 + 1, none⟩ (.int .i64 d.2.1)).setCell ⟨g, i * 123 + s * 3 + 2, none⟩ (.bool d.2.2)) := fun j r hj hr => by
  by_cases e : j = i ∧ r = s
  · obtain ⟨rfl, rfl⟩ := e
    rw [updT, if_pos ⟨rfl, rfl⟩]
    exact (h j r hj hr).put d
  · rw [updT, if_neg e]
    refine (((h j r hj hr).oth _ (.inr ?_)).oth _ (.inr ?_)).oth _ (.inr ?_) <;> omega
theorem TabIs.put2 {g R : Nat} {T : Nat → Nat → Cst} {W : World} (h : TabIs g R T W) {i s : Nat} (hi : i < R) (hs : s < 41) (b : Bool) :
    TabIs g R (updT T i s ((T i s).1, (T i s).2.1, b)) (W.setCell ⟨g, i * 123 + s * 3 + 2, none⟩ (.bool b)) := fun j r hj hr => by
  by_cases e : j = i ∧ r = s
  · obtain ⟨rfl, rfl⟩ := e
    rw [updT, if_pos ⟨rfl, rfl⟩]
    exact (h j r hj hr).put2 b
  · rw [updT, if_neg e]
    refine (h j r hj hr).oth _ (.inr ?_)
    omega

/-- A table that was just made. -/
def zeroCells : Array Value := ((List.range 123).map fun x => if x % 3 = 2 then Value.bool false else .int .i64 0).toArray
theorem zero_at (n o : Nat) (ho : o < n) : (madeCells zeroCells n)[o]? = some (if o % 3 = 2 then .bool false else .int .i64 0) := by
  have hz : zeroCells.size = 123 := by simp [zeroCells]
  have h1 : (madeCells zeroCells n)[o]? = some (zeroCells[o % zeroCells.size]!) := by
    unfold madeCells
    simp [ho]
  rw [h1, hz]
  have hl : o % 123 < 123 := Nat.mod_lt _ (by decide)
  have h2 : zeroCells[o % 123]! = if o % 123 % 3 = 2 then Value.bool false else .int .i64 0 := by
    rw [getElem!_pos zeroCells (o % 123) (by rw [hz]; exact hl)]
    simp [zeroCells]
  rw [h2, show o % 123 % 3 = o % 3 by omega]
theorem TabIs.made (w : World) (R : Nat) (t : TypeId) : TabIs w.heap.size R (fun _ _ => (0, 0, false)) (w.alloc (.cells (madeCells zeroCells (R * 123)) t)) := fun i s hi hs => by
  have hg := heap_alloc_new w (.cells (madeCells zeroCells (R * 123)) t)
  have hlt : i * 123 + s * 3 + 2 < R * 123 := by omega
  refine ⟨?_, ?_, ?_, frozen_of_row _ _ _ _ _ hg, frozen_of_row _ _ _ _ _ hg, frozen_of_row _ _ _ _ _ hg⟩
  · rw [cell_of_row _ _ _ _ _ _ hg, zero_at _ _ (by omega), if_neg (by omega)]
  · rw [cell_of_row _ _ _ _ _ _ hg, zero_at _ _ (by omega), if_neg (by omega)]
  · rw [cell_of_row _ _ _ _ _ _ hg, zero_at _ _ (by omega), if_pos (by omega)]
theorem run_make_cells (t e : TypeId) (z : Value) (bytes k : Nat) (ht : Try.prog.underlying t = some (.slice e)) (hinfo : (Try.prog.info? e).map (fun i => (i.zero, i.size, i.bytes)) = some (some z, k, bytes))
    (n : Nat) (hbytes : bytes * n ≤ 281474976710656) (h63 : n ≤ 9223372036854775807) (w : World) :
    (Instr.makeSlice t (.int .i64 (n : Int)) (.int .i64 (n : Int))).run Try.prog w = .ok (.slice (some ⟨w.heap.size, 0, none⟩) n n) (w.alloc (.cells (madeCells z.cells (n * k)) e)) := by
  obtain ⟨i, hi, hzz⟩ := Option.map_eq_some_iff.1 hinfo
  simp only [Prod.mk.injEq] at hzz
  obtain ⟨hz, hs, hb⟩ := hzz
  have hb' : (i.bytes : Int) * (n : Int) ≤ 281474976710656 := by
    have h : ((i.bytes * n : Nat) : Int) ≤ 281474976710656 := by rw [hb]; omega
    rwa [Int.natCast_mul] at h
  have hr := run_make (P := Try.prog) w t e i z ht hi hz .i64 .i64 n n (by omega) (Int.le_refl _) hb' (by omega)
  simp only [Int.toNat_natCast, hs] at hr
  exact hr
def slipsZ : Value := .agg zeroCells
theorem run_make_slips (n : Nat) (hn : n ≤ 1000) (w : World) :
    (Instr.makeSlice 101 (.int .i64 (n : Int)) (.int .i64 (n : Int))).run Try.prog w = .ok (.slice (some ⟨w.heap.size, 0, none⟩) n n) (w.alloc (.cells (madeCells zeroCells (n * 123)) 105)) :=
  run_make_cells 101 105 slipsZ 984 123 Try.underlying101 (by kernel_rfl) n (by omega) (by omega) w
end Go.Proofs.Ytgeapenglcohfaa
