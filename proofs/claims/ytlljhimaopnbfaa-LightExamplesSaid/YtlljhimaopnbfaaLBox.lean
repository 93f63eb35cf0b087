/- A surface in a box; a row of zeros. No condition. -/
import Derived.Test.YtlljhimaopnbfaaLSlot
import Derived.Test.YtlljhimaopnbfaaQS
import Derived.Laws.OwnMore
import Derived.Deep.OwnRows
namespace Go.Proofs.Ytlljhimaopnbfaa
open Go.RowKit

/-- A surface in a box. -/
structure ArBox (W : World) (b : Nat) (c0 c1 c2 c3 : Value) : Prop where
  c0 : W.cell? ⟨b, 0, none⟩ = some c0
  c1 : W.cell? ⟨b, 1, none⟩ = some c1
  c2 : W.cell? ⟨b, 2, none⟩ = some c2
  c3 : W.cell? ⟨b, 3, none⟩ = some c3
  f0 : W.frozen? ⟨b, 0, none⟩ = false
  f1 : W.frozen? ⟨b, 1, none⟩ = false
  f2 : W.frozen? ⟨b, 2, none⟩ = false
  f3 : W.frozen? ⟨b, 3, none⟩ = false
theorem ArBox.new (W : World) (c0 c1 c2 c3 : Value) : ArBox (W.alloc (.cells #[c0, c1, c2, c3] 37)) W.heap.size c0 c1 c2 c3 :=
  ⟨cell_new rfl, cell_new rfl, cell_new rfl, cell_new rfl, by go_simp, by go_simp, by go_simp, by go_simp⟩
theorem ArBox.but {W W' : World} {D : List Nat} {b : Nat} {c0 c1 c2 c3 : Value} (h : ArBox W b c0 c1 c2 c3) (x : But D W W') (hb : b ∉ D) : ArBox W' b c0 c1 c2 c3 :=
  ⟨x.cell h.c0 hb, x.cell h.c1 hb, x.cell h.c2 hb, x.cell h.c3 hb, x.frozen h.c0 h.f0 hb, x.frozen h.c1 h.f1 hb, x.frozen h.c2 h.f2 hb, x.frozen h.c3 h.f3 hb⟩
theorem ArBox.ext {W W' : World} {b : Nat} {c0 c1 c2 c3 : Value} (h : ArBox W b c0 c1 c2 c3) (x : Ext W W') : ArBox W' b c0 c1 c2 c3 :=
  h.but (D := []) x.but (by simp)
theorem ArBox.put {W : World} {b : Nat} {c0 c1 c2 c3 : Value} (h : ArBox W b c0 c1 c2 c3) (u0 u1 u2 u3 : Value) : ArBox ((((W.setCell ⟨b, 0, none⟩ u0).setCell ⟨b, 1, none⟩ u1).setCell ⟨b, 2, none⟩ u2).setCell ⟨b, 3, none⟩ u3) b u0 u1 u2 u3 := by
  obtain ⟨a, c, d, e⟩ := set4 h.c0 h.c1 h.c2 h.c3 u0 u1 u2 u3
  refine ⟨a, c, d, e, ?_, ?_, ?_, ?_⟩
  all_goals rw [World.frozen?_setCell, World.frozen?_setCell, World.frozen?_setCell, World.frozen?_setCell]
  · exact h.f0
  · exact h.f1
  · exact h.f2
  · exact h.f3
theorem but_put4 {W0 W : World} {D : List Nat} (x : But D W0 W) {b : Nat} (hb : b ∈ D) (u0 u1 u2 u3 : Value) : But D W0 ((((W.setCell ⟨b, 0, none⟩ u0).setCell ⟨b, 1, none⟩ u1).setCell ⟨b, 2, none⟩ u2).setCell ⟨b, 3, none⟩ u3) :=
  (((x.setCell (p := ⟨b, 0, none⟩) hb u0).setCell (p := ⟨b, 1, none⟩) hb u1).setCell (p := ⟨b, 2, none⟩) hb u2).setCell (p := ⟨b, 3, none⟩) hb u3
theorem grown_put4 (W : World) (b : Nat) (u0 u1 u2 u3 : Value) : W.grownBy ((((W.setCell ⟨b, 0, none⟩ u0).setCell ⟨b, 1, none⟩ u1).setCell ⟨b, 2, none⟩ u2).setCell ⟨b, 3, none⟩ u3) (some b) :=
  (((grown_set W b 0 u0).trans (grown_set _ b 1 u1)).trans (grown_set _ b 2 u2)).trans (grown_set _ b 3 u3)
theorem ArBox.put0 {W : World} {b : Nat} {c0 c1 c2 c3 : Value} (h : ArBox W b c0 c1 c2 c3) (u : Value) : ArBox (W.setCell ⟨b, 0, none⟩ u) b u c1 c2 c3 :=
  ⟨cell_set_same h.c0, (cell_set_other (.inr (by decide))).trans h.c1, (cell_set_other (.inr (by decide))).trans h.c2, (cell_set_other (.inr (by decide))).trans h.c3, (World.frozen?_setCell ..).trans h.f0, (World.frozen?_setCell ..).trans h.f1, (World.frozen?_setCell ..).trans h.f2, (World.frozen?_setCell ..).trans h.f3⟩
theorem ArBox.put1 {W : World} {b : Nat} {c0 c1 c2 c3 : Value} (h : ArBox W b c0 c1 c2 c3) (u : Value) : ArBox (W.setCell ⟨b, 1, none⟩ u) b c0 u c2 c3 :=
  ⟨(cell_set_other (.inr (by decide))).trans h.c0, cell_set_same h.c1, (cell_set_other (.inr (by decide))).trans h.c2, (cell_set_other (.inr (by decide))).trans h.c3, (World.frozen?_setCell ..).trans h.f0, (World.frozen?_setCell ..).trans h.f1, (World.frozen?_setCell ..).trans h.f2, (World.frozen?_setCell ..).trans h.f3⟩
theorem own_zero (W : World) (B N : Nat) (hB : B ≤ W.heap.size) (hN : N ≤ 1000) : intK.Own B (W.alloc (.cells (madeCells #[.int .i64 0] N) 3)) (.slice (some ⟨W.heap.size, 0, none⟩) N N) (List.replicate N 0) := by
  have := EK.Own.lit (K := intK) (B := B) W (madeCells #[.int .i64 0] N) (List.replicate N 0) (by rw [toList_madeCells_one, flat_ints, List.map_replicate]) hB (by simp [maxLen]; omega)
  rw [List.length_replicate] at this
  exact this
end Go.Proofs.Ytlljhimaopnbfaa
