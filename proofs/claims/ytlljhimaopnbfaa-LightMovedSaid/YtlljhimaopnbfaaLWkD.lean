/- A work in a box, all its cells. -/
import Derived.Test.YtlljhimaopnbfaaLBox
import Derived.Test.YtlljhimaopnbfaaLCarP
namespace Go.Proofs.Ytlljhimaopnbfaa
open Go.RowKit

/-- A work in a box, all its cells. -/
structure WkD (k : WkT) (sv : Value) (b : Nat) (W : World) : Prop where
  c0 : W.cell? ⟨b, 0, none⟩ = some (.int .i64 k.tip)
  c1 : W.cell? ⟨b, 1, none⟩ = some (.int .i64 k.num)
  c2 : W.cell? ⟨b, 2, none⟩ = some (.int .i64 k.den)
  c3 : W.cell? ⟨b, 3, none⟩ = some (.int .i64 k.bite)
  c4 : W.cell? ⟨b, 4, none⟩ = some (.int .i64 k.slack)
  c5 : W.cell? ⟨b, 5, none⟩ = some (.int .i64 k.wall)
  c6 : W.cell? ⟨b, 6, none⟩ = some (.int .i64 k.deepest)
  c7 : W.cell? ⟨b, 7, none⟩ = some (.int .i64 k.play)
  c8 : W.cell? ⟨b, 8, none⟩ = some (.int .i64 k.fx)
  c9 : W.cell? ⟨b, 9, none⟩ = some (.int .i64 k.fy)
  c10 : W.cell? ⟨b, 10, none⟩ = some (.int .i64 k.fh)
  c11 : W.cell? ⟨b, 11, none⟩ = some (.int .i64 k.fd)
  c12 : W.cell? ⟨b, 12, none⟩ = some sv
theorem WkD.ext {k : WkT} {sv : Value} {b : Nat} {W W' : World} (h : WkD k sv b W) (x : Ext W W') : WkD k sv b W' :=
  ⟨x.cell_some h.c0, x.cell_some h.c1, x.cell_some h.c2, x.cell_some h.c3, x.cell_some h.c4, x.cell_some h.c5, x.cell_some h.c6, x.cell_some h.c7, x.cell_some h.c8, x.cell_some h.c9, x.cell_some h.c10, x.cell_some h.c11, x.cell_some h.c12⟩
theorem WkD.new (k : WkT) (sv : Value) (w : World) : WkD k sv w.heap.size (w.alloc (.cells #[.int .i64 k.tip, .int .i64 k.num, .int .i64 k.den, .int .i64 k.bite, .int .i64 k.slack, .int .i64 k.wall, .int .i64 k.deepest, .int .i64 k.play, .int .i64 k.fx, .int .i64 k.fy, .int .i64 k.fh, .int .i64 k.fd, sv] 79)) :=
  ⟨cell_new rfl, cell_new rfl, cell_new rfl, cell_new rfl, cell_new rfl, cell_new rfl, cell_new rfl, cell_new rfl, cell_new rfl, cell_new rfl, cell_new rfl, cell_new rfl, cell_new rfl⟩
end Go.Proofs.Ytlljhimaopnbfaa
